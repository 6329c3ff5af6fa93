/-
  No cell of these rows narrows 'for every input' (looked for: loops, veiled, ifaces, maps, wideKeys, modest, calm, conditions, laid).
  DERIVED. THE GIVEN ROWS OF THIS SEAT. 6 by the template 'for every input the law returns true; each argument reads behind the call as it read before'; 0 by the template 'total and deterministic' (their statements: YtjdnfmpnfogmpaaTotals.lean).
  GIVEN WITH THE SEED: the statements are not yours to turn. If you find one false, say at which input.
  Laid BY PROGRAM, IN A SANDBOX (cutbox-rows.mjs): the forced cells as the released guide's own fill.sh prints them over the translation 0d8b7db5644f14f8… (all of the seat's roots in one cut). By AI agents, Wed Nov 11 2026. No macro, syntax, notation, axiom, sorry.
-/
import Derived.Test.YtjdnfmpnfogmpaaChecked
import GoSem.Claim
import GoSem.ClaimJoined
import GoSem.ClaimMapViews
import Derived.JoinedTies
import Derived.KernelRfl
namespace Go.Proofs.Ytjdnfmpnfogmpaa
/- THE CELL 'sum', in the pinned program and in every row, IS THE sha256 OF THE DUMP (.gsa) THAT YtjdnfmpnfogmpaaProg.lean LOADS. Nothing in Lean hashes anything: it is a label: what it is worth is what the hold of that sum in a sandbox is worth. -/
noncomputable def Try.pinned : Pinned := { name := "ytjdnfmpnfogmpaa", sum := "0d8b7db5644f14f8459bfa8cc9a1363857df687ee1ecb8c143200be69416bfc6", checked := Try.checked }
namespace Rows
def none {H : Type} : Left H := { results := [], args := [] }

/-- 'laws.FnPartsOf': WHATEVER THE INPUT: true; the input reads as it did. -/
def fnPartsOfSpec : ChangeSpec := { name := "fnPartsOf", fn := fun _ => fun
  | [d] => { results := [.lit (.bool true)], args := [d] }
  | _ => none }
def fnPartsOfRow : OpenClaim := { program := "ytjdnfmpnfogmpaa", sum := "0d8b7db5644f14f8459bfa8cc9a1363857df687ee1ecb8c143200be69416bfc6", func := "loop.example/dominotilings/laws.FnPartsOf", spec := "fnPartsOf", apart := false }
def FnPartsOfSaid : Prop := fnPartsOfRow.holds Try.pinned (OpenSpec.ofChange fnPartsOfSpec)

/-- ITS FALSE NEIGHBOUR: 'it returns false'. Refute it at one input. -/
def fnPartsOfWrong : ChangeSpec := { name := "fnPartsOf", fn := fun _ => fun
  | [d] => { results := [.lit (.bool false)], args := [d] }
  | _ => none }
def FnPartsOfWrongFalsely : Prop := fnPartsOfRow.holds Try.pinned (OpenSpec.ofChange fnPartsOfWrong)

/-- 'laws.FnRegionBox': WHATEVER THE INPUT: true; the input reads as it did. -/
def fnRegionBoxSpec : ChangeSpec := { name := "fnRegionBox", fn := fun _ => fun
  | [d] => { results := [.lit (.bool true)], args := [d] }
  | _ => none }
def fnRegionBoxRow : OpenClaim := { program := "ytjdnfmpnfogmpaa", sum := "0d8b7db5644f14f8459bfa8cc9a1363857df687ee1ecb8c143200be69416bfc6", func := "loop.example/dominotilings/laws.FnRegionBox", spec := "fnRegionBox", unfollowed := true, recurses := true, apart := false }
def FnRegionBoxSaid : Prop := fnRegionBoxRow.holds Try.pinned (OpenSpec.ofChange fnRegionBoxSpec)

/-- ITS FALSE NEIGHBOUR: 'it returns false'. Refute it at one input. -/
def fnRegionBoxWrong : ChangeSpec := { name := "fnRegionBox", fn := fun _ => fun
  | [d] => { results := [.lit (.bool false)], args := [d] }
  | _ => none }
def FnRegionBoxWrongFalsely : Prop := fnRegionBoxRow.holds Try.pinned (OpenSpec.ofChange fnRegionBoxWrong)

/-- 'laws.FnPartsMany': WHATEVER THE INPUT: true; the input reads as it did. -/
def fnPartsManySpec : ChangeSpec := { name := "fnPartsMany", fn := fun _ => fun
  | [d] => { results := [.lit (.bool true)], args := [d] }
  | _ => none }
def fnPartsManyRow : OpenClaim := { program := "ytjdnfmpnfogmpaa", sum := "0d8b7db5644f14f8459bfa8cc9a1363857df687ee1ecb8c143200be69416bfc6", func := "loop.example/dominotilings/laws.FnPartsMany", spec := "fnPartsMany", apart := false }
def FnPartsManySaid : Prop := fnPartsManyRow.holds Try.pinned (OpenSpec.ofChange fnPartsManySpec)

/-- ITS FALSE NEIGHBOUR: 'it returns false'. Refute it at one input. -/
def fnPartsManyWrong : ChangeSpec := { name := "fnPartsMany", fn := fun _ => fun
  | [d] => { results := [.lit (.bool false)], args := [d] }
  | _ => none }
def FnPartsManyWrongFalsely : Prop := fnPartsManyRow.holds Try.pinned (OpenSpec.ofChange fnPartsManyWrong)

/-- 'laws.FnRegionTurn': WHATEVER THE INPUT: true; the input reads as it did. -/
def fnRegionTurnSpec : ChangeSpec := { name := "fnRegionTurn", fn := fun _ => fun
  | [d] => { results := [.lit (.bool true)], args := [d] }
  | _ => none }
def fnRegionTurnRow : OpenClaim := { program := "ytjdnfmpnfogmpaa", sum := "0d8b7db5644f14f8459bfa8cc9a1363857df687ee1ecb8c143200be69416bfc6", func := "loop.example/dominotilings/laws.FnRegionTurn", spec := "fnRegionTurn", unfollowed := true, recurses := true, apart := false }
def FnRegionTurnSaid : Prop := fnRegionTurnRow.holds Try.pinned (OpenSpec.ofChange fnRegionTurnSpec)

/-- ITS FALSE NEIGHBOUR: 'it returns false'. Refute it at one input. -/
def fnRegionTurnWrong : ChangeSpec := { name := "fnRegionTurn", fn := fun _ => fun
  | [d] => { results := [.lit (.bool false)], args := [d] }
  | _ => none }
def FnRegionTurnWrongFalsely : Prop := fnRegionTurnRow.holds Try.pinned (OpenSpec.ofChange fnRegionTurnWrong)

/-- 'laws.FnHolesMany': WHATEVER THE INPUT: true; the input reads as it did. -/
def fnHolesManySpec : ChangeSpec := { name := "fnHolesMany", fn := fun _ => fun
  | [d] => { results := [.lit (.bool true)], args := [d] }
  | _ => none }
def fnHolesManyRow : OpenClaim := { program := "ytjdnfmpnfogmpaa", sum := "0d8b7db5644f14f8459bfa8cc9a1363857df687ee1ecb8c143200be69416bfc6", func := "loop.example/dominotilings/laws.FnHolesMany", spec := "fnHolesMany", unfollowed := true, recurses := true, apart := false }
def FnHolesManySaid : Prop := fnHolesManyRow.holds Try.pinned (OpenSpec.ofChange fnHolesManySpec)

/-- ITS FALSE NEIGHBOUR: 'it returns false'. Refute it at one input. -/
def fnHolesManyWrong : ChangeSpec := { name := "fnHolesMany", fn := fun _ => fun
  | [d] => { results := [.lit (.bool false)], args := [d] }
  | _ => none }
def FnHolesManyWrongFalsely : Prop := fnHolesManyRow.holds Try.pinned (OpenSpec.ofChange fnHolesManyWrong)

/-- 'laws.FnPartRegion': WHATEVER THE INPUT: true; the input reads as it did. -/
def fnPartRegionSpec : ChangeSpec := { name := "fnPartRegion", fn := fun _ => fun
  | [d] => { results := [.lit (.bool true)], args := [d] }
  | _ => none }
def fnPartRegionRow : OpenClaim := { program := "ytjdnfmpnfogmpaa", sum := "0d8b7db5644f14f8459bfa8cc9a1363857df687ee1ecb8c143200be69416bfc6", func := "loop.example/dominotilings/laws.FnPartRegion", spec := "fnPartRegion", apart := false }
def FnPartRegionSaid : Prop := fnPartRegionRow.holds Try.pinned (OpenSpec.ofChange fnPartRegionSpec)

/-- ITS FALSE NEIGHBOUR: 'it returns false'. Refute it at one input. -/
def fnPartRegionWrong : ChangeSpec := { name := "fnPartRegion", fn := fun _ => fun
  | [d] => { results := [.lit (.bool false)], args := [d] }
  | _ => none }
def FnPartRegionWrongFalsely : Prop := fnPartRegionRow.holds Try.pinned (OpenSpec.ofChange fnPartRegionWrong)

/- THE SECOND FORM. 'bulk': how many values and letters a reading holds, each counted each time it is reached (what is shared counts as often as it is met; a slice's spare places count too). A statement '..UptoSaid' is the law's where the arguments, and the package variables that the reading takes, are together of bulk at most 1048576: NARROWER than '..Said'. Prove '..Said' where nothing that the law and all that it calls make is longer than what came in: it says more and counts as full. Else prove '..UptoSaid'. A law counts once. -/
mutual
def uptoBulk {H : Type} : DataW H → Nat
  | .lit (.string bytes) => bytes.length + 1
  | .lit _ => 1
  | .nil => 1
  | .ptr d => uptoBulk d + 1
  | .slice elems spare => uptoBulkAll elems + uptoBulkAll spare + 1
  | .agg parts => uptoBulkAll parts + 1
  | .iface _ d => uptoBulk d + 1
  | .map entries => uptoBulkEntries entries + 1
  | .held _ => 1
def uptoBulkAll {H : Type} : List (DataW H) → Nat
  | [] => 0
  | d :: r => uptoBulk d + uptoBulkAll r
def uptoBulkEntries {H : Type} : List (Lit × DataW H) → Nat
  | [] => 0
  | x :: r => uptoBulkEntry x + uptoBulkEntries r
def uptoBulkEntry {H : Type} : Lit × DataW H → Nat
  | (.string bytes, d) => bytes.length + uptoBulk d + 1
  | (_, d) => uptoBulk d + 1
 end
def uptoSmall : (H : Type) → List (DataW H) → Bool := fun _ ds => decide (uptoBulkAll ds ≤ 1048576)
def OpenSpec.upto (s : _root_.Go.ChangeSpec) : _root_.Go.OpenSpec := { _root_.Go.OpenSpec.ofChange s with cond := some uptoSmall }

/-- 'laws.FnPartsOf', WHERE WHAT IT READS IS OF BULK AT MOST 1048576: true; the input reads as it did. -/
def fnPartsOfUptoRow : OpenClaim := { program := "ytjdnfmpnfogmpaa", sum := "0d8b7db5644f14f8459bfa8cc9a1363857df687ee1ecb8c143200be69416bfc6", func := "loop.example/dominotilings/laws.FnPartsOf", spec := "fnPartsOf", apart := false, narrowed := true }
def FnPartsOfUptoSaid : Prop := fnPartsOfUptoRow.holds Try.pinned (OpenSpec.upto fnPartsOfSpec)

/-- 'laws.FnRegionBox', WHERE WHAT IT READS IS OF BULK AT MOST 1048576: true; the input reads as it did. -/
def fnRegionBoxUptoRow : OpenClaim := { program := "ytjdnfmpnfogmpaa", sum := "0d8b7db5644f14f8459bfa8cc9a1363857df687ee1ecb8c143200be69416bfc6", func := "loop.example/dominotilings/laws.FnRegionBox", spec := "fnRegionBox", unfollowed := true, recurses := true, apart := false, narrowed := true }
def FnRegionBoxUptoSaid : Prop := fnRegionBoxUptoRow.holds Try.pinned (OpenSpec.upto fnRegionBoxSpec)

/-- 'laws.FnPartsMany', WHERE WHAT IT READS IS OF BULK AT MOST 1048576: true; the input reads as it did. -/
def fnPartsManyUptoRow : OpenClaim := { program := "ytjdnfmpnfogmpaa", sum := "0d8b7db5644f14f8459bfa8cc9a1363857df687ee1ecb8c143200be69416bfc6", func := "loop.example/dominotilings/laws.FnPartsMany", spec := "fnPartsMany", apart := false, narrowed := true }
def FnPartsManyUptoSaid : Prop := fnPartsManyUptoRow.holds Try.pinned (OpenSpec.upto fnPartsManySpec)

/-- 'laws.FnRegionTurn', WHERE WHAT IT READS IS OF BULK AT MOST 1048576: true; the input reads as it did. -/
def fnRegionTurnUptoRow : OpenClaim := { program := "ytjdnfmpnfogmpaa", sum := "0d8b7db5644f14f8459bfa8cc9a1363857df687ee1ecb8c143200be69416bfc6", func := "loop.example/dominotilings/laws.FnRegionTurn", spec := "fnRegionTurn", unfollowed := true, recurses := true, apart := false, narrowed := true }
def FnRegionTurnUptoSaid : Prop := fnRegionTurnUptoRow.holds Try.pinned (OpenSpec.upto fnRegionTurnSpec)

/-- 'laws.FnHolesMany', WHERE WHAT IT READS IS OF BULK AT MOST 1048576: true; the input reads as it did. -/
def fnHolesManyUptoRow : OpenClaim := { program := "ytjdnfmpnfogmpaa", sum := "0d8b7db5644f14f8459bfa8cc9a1363857df687ee1ecb8c143200be69416bfc6", func := "loop.example/dominotilings/laws.FnHolesMany", spec := "fnHolesMany", unfollowed := true, recurses := true, apart := false, narrowed := true }
def FnHolesManyUptoSaid : Prop := fnHolesManyUptoRow.holds Try.pinned (OpenSpec.upto fnHolesManySpec)

/-- 'laws.FnPartRegion', WHERE WHAT IT READS IS OF BULK AT MOST 1048576: true; the input reads as it did. -/
def fnPartRegionUptoRow : OpenClaim := { program := "ytjdnfmpnfogmpaa", sum := "0d8b7db5644f14f8459bfa8cc9a1363857df687ee1ecb8c143200be69416bfc6", func := "loop.example/dominotilings/laws.FnPartRegion", spec := "fnPartRegion", apart := false, narrowed := true }
def FnPartRegionUptoSaid : Prop := fnPartRegionUptoRow.holds Try.pinned (OpenSpec.upto fnPartRegionSpec)

end Rows
end Go.Proofs.Ytjdnfmpnfogmpaa
