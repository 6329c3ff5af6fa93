/-
  No cell of these rows narrows 'for every input' (looked for: loops, veiled, ifaces, maps, wideKeys, modest, calm, conditions, laid).
  DERIVED. THE GIVEN ROWS OF THIS SEAT. 7 by the template 'for every input the law returns true; each argument reads behind the call as it read before'; 0 by the template 'total and deterministic' (their statements: YtklifibiadiinaaTotals.lean).
  GIVEN WITH THE SEED: the statements are not yours to turn. If you find one false, say at which input.
  Laid BY PROGRAM, IN A SANDBOX (cutbox-rows.mjs): the forced cells as the released guide's own fill.sh prints them over the translation 521fee35fe8f41d1… (all of the seat's roots in one cut). By AI agents, Wed Nov 11 2026. No macro, syntax, notation, axiom, sorry.
-/
import Derived.Test.YtklifibiadiinaaChecked
import GoSem.Claim
import GoSem.ClaimJoined
import GoSem.ClaimMapViews
import Derived.JoinedTies
import Derived.KernelRfl
namespace Go.Proofs.Ytklifibiadiinaa
/- THE CELL 'sum', in the pinned program and in every row, IS THE sha256 OF THE DUMP (.gsa) THAT YtklifibiadiinaaProg.lean LOADS. Nothing in Lean hashes anything: it is a label: what it is worth is what the hold of that sum in a sandbox is worth. -/
noncomputable def Try.pinned : Pinned := { name := "ytklifibiadiinaa", sum := "521fee35fe8f41d1d3d0c8a7ad02e10e3df859058192564e47433f88f89c3e78", checked := Try.checked }
namespace Rows
def none {H : Type} : Left H := { results := [], args := [] }

/-- 'laws.FnExactSignMatrix': WHATEVER THE INPUT: true; the input reads as it did. -/
def fnExactSignMatrixSpec : ChangeSpec := { name := "fnExactSignMatrix", fn := fun _ => fun
  | [d] => { results := [.lit (.bool true)], args := [d] }
  | _ => none }
def fnExactSignMatrixRow : OpenClaim := { program := "ytklifibiadiinaa", sum := "521fee35fe8f41d1d3d0c8a7ad02e10e3df859058192564e47433f88f89c3e78", func := "loop.example/dominotilings/laws.FnExactSignMatrix", spec := "fnExactSignMatrix", apart := false }
def FnExactSignMatrixSaid : Prop := fnExactSignMatrixRow.holds Try.pinned (OpenSpec.ofChange fnExactSignMatrixSpec)

/-- ITS FALSE NEIGHBOUR: 'it returns false'. Refute it at one input. -/
def fnExactSignMatrixWrong : ChangeSpec := { name := "fnExactSignMatrix", fn := fun _ => fun
  | [d] => { results := [.lit (.bool false)], args := [d] }
  | _ => none }
def FnExactSignMatrixWrongFalsely : Prop := fnExactSignMatrixRow.holds Try.pinned (OpenSpec.ofChange fnExactSignMatrixWrong)

/-- 'laws.FnSignMatrix': WHATEVER THE INPUT: true; the input reads as it did. -/
def fnSignMatrixSpec : ChangeSpec := { name := "fnSignMatrix", fn := fun _ => fun
  | [d] => { results := [.lit (.bool true)], args := [d] }
  | _ => none }
def fnSignMatrixRow : OpenClaim := { program := "ytklifibiadiinaa", sum := "521fee35fe8f41d1d3d0c8a7ad02e10e3df859058192564e47433f88f89c3e78", func := "loop.example/dominotilings/laws.FnSignMatrix", spec := "fnSignMatrix", unfollowed := true, recurses := true, apart := false }
def FnSignMatrixSaid : Prop := fnSignMatrixRow.holds Try.pinned (OpenSpec.ofChange fnSignMatrixSpec)

/-- ITS FALSE NEIGHBOUR: 'it returns false'. Refute it at one input. -/
def fnSignMatrixWrong : ChangeSpec := { name := "fnSignMatrix", fn := fun _ => fun
  | [d] => { results := [.lit (.bool false)], args := [d] }
  | _ => none }
def FnSignMatrixWrongFalsely : Prop := fnSignMatrixRow.holds Try.pinned (OpenSpec.ofChange fnSignMatrixWrong)

/-- 'laws.FnExactTilingsDet': WHATEVER THE INPUT: true; the input reads as it did. -/
def fnExactTilingsDetSpec : ChangeSpec := { name := "fnExactTilingsDet", fn := fun _ => fun
  | [d] => { results := [.lit (.bool true)], args := [d] }
  | _ => none }
def fnExactTilingsDetRow : OpenClaim := { program := "ytklifibiadiinaa", sum := "521fee35fe8f41d1d3d0c8a7ad02e10e3df859058192564e47433f88f89c3e78", func := "loop.example/dominotilings/laws.FnExactTilingsDet", spec := "fnExactTilingsDet", apart := false }
def FnExactTilingsDetSaid : Prop := fnExactTilingsDetRow.holds Try.pinned (OpenSpec.ofChange fnExactTilingsDetSpec)

/-- ITS FALSE NEIGHBOUR: 'it returns false'. Refute it at one input. -/
def fnExactTilingsDetWrong : ChangeSpec := { name := "fnExactTilingsDet", fn := fun _ => fun
  | [d] => { results := [.lit (.bool false)], args := [d] }
  | _ => none }
def FnExactTilingsDetWrongFalsely : Prop := fnExactTilingsDetRow.holds Try.pinned (OpenSpec.ofChange fnExactTilingsDetWrong)

/-- 'laws.FnDet': WHATEVER THE INPUT: true; the input reads as it did. -/
def fnDetSpec : ChangeSpec := { name := "fnDet", fn := fun _ => fun
  | [d] => { results := [.lit (.bool true)], args := [d] }
  | _ => none }
def fnDetRow : OpenClaim := { program := "ytklifibiadiinaa", sum := "521fee35fe8f41d1d3d0c8a7ad02e10e3df859058192564e47433f88f89c3e78", func := "loop.example/dominotilings/laws.FnDet", spec := "fnDet", unfollowed := true, recurses := true, apart := false }
def FnDetSaid : Prop := fnDetRow.holds Try.pinned (OpenSpec.ofChange fnDetSpec)

/-- ITS FALSE NEIGHBOUR: 'it returns false'. Refute it at one input. -/
def fnDetWrong : ChangeSpec := { name := "fnDet", fn := fun _ => fun
  | [d] => { results := [.lit (.bool false)], args := [d] }
  | _ => none }
def FnDetWrongFalsely : Prop := fnDetRow.holds Try.pinned (OpenSpec.ofChange fnDetWrong)

/-- 'laws.FnTilingsDet': WHATEVER THE INPUT: true; the input reads as it did. -/
def fnTilingsDetSpec : ChangeSpec := { name := "fnTilingsDet", fn := fun _ => fun
  | [d] => { results := [.lit (.bool true)], args := [d] }
  | _ => none }
def fnTilingsDetRow : OpenClaim := { program := "ytklifibiadiinaa", sum := "521fee35fe8f41d1d3d0c8a7ad02e10e3df859058192564e47433f88f89c3e78", func := "loop.example/dominotilings/laws.FnTilingsDet", spec := "fnTilingsDet", unfollowed := true, recurses := true, apart := false }
def FnTilingsDetSaid : Prop := fnTilingsDetRow.holds Try.pinned (OpenSpec.ofChange fnTilingsDetSpec)

/-- ITS FALSE NEIGHBOUR: 'it returns false'. Refute it at one input. -/
def fnTilingsDetWrong : ChangeSpec := { name := "fnTilingsDet", fn := fun _ => fun
  | [d] => { results := [.lit (.bool false)], args := [d] }
  | _ => none }
def FnTilingsDetWrongFalsely : Prop := fnTilingsDetRow.holds Try.pinned (OpenSpec.ofChange fnTilingsDetWrong)

/-- 'laws.FnExactHeightsOk': WHATEVER THE INPUT: true; the input reads as it did. -/
def fnExactHeightsOkSpec : ChangeSpec := { name := "fnExactHeightsOk", fn := fun _ => fun
  | [d1, d2] => { results := [.lit (.bool true)], args := [d1, d2] }
  | _ => none }
def fnExactHeightsOkRow : OpenClaim := { program := "ytklifibiadiinaa", sum := "521fee35fe8f41d1d3d0c8a7ad02e10e3df859058192564e47433f88f89c3e78", func := "loop.example/dominotilings/laws.FnExactHeightsOk", spec := "fnExactHeightsOk", unfollowed := true, recurses := true, apart := false }
def FnExactHeightsOkSaid : Prop := fnExactHeightsOkRow.holds Try.pinned (OpenSpec.ofChange fnExactHeightsOkSpec)

/-- ITS FALSE NEIGHBOUR: 'it returns false'. Refute it at one input. -/
def fnExactHeightsOkWrong : ChangeSpec := { name := "fnExactHeightsOk", fn := fun _ => fun
  | [d1, d2] => { results := [.lit (.bool false)], args := [d1, d2] }
  | _ => none }
def FnExactHeightsOkWrongFalsely : Prop := fnExactHeightsOkRow.holds Try.pinned (OpenSpec.ofChange fnExactHeightsOkWrong)

/-- 'laws.FnExactHeightsHigh': WHATEVER THE INPUT: true; the input reads as it did. -/
def fnExactHeightsHighSpec : ChangeSpec := { name := "fnExactHeightsHigh", fn := fun _ => fun
  | [d1, d2, d3] => { results := [.lit (.bool true)], args := [d1, d2, d3] }
  | _ => none }
def fnExactHeightsHighRow : OpenClaim := { program := "ytklifibiadiinaa", sum := "521fee35fe8f41d1d3d0c8a7ad02e10e3df859058192564e47433f88f89c3e78", func := "loop.example/dominotilings/laws.FnExactHeightsHigh", spec := "fnExactHeightsHigh", unfollowed := true, recurses := true, apart := false }
def FnExactHeightsHighSaid : Prop := fnExactHeightsHighRow.holds Try.pinned (OpenSpec.ofChange fnExactHeightsHighSpec)

/-- ITS FALSE NEIGHBOUR: 'it returns false'. Refute it at one input. -/
def fnExactHeightsHighWrong : ChangeSpec := { name := "fnExactHeightsHigh", fn := fun _ => fun
  | [d1, d2, d3] => { results := [.lit (.bool false)], args := [d1, d2, d3] }
  | _ => none }
def FnExactHeightsHighWrongFalsely : Prop := fnExactHeightsHighRow.holds Try.pinned (OpenSpec.ofChange fnExactHeightsHighWrong)

/- THE SECOND FORM. 'bulk': how many values and letters a reading holds, each counted each time it is reached (what is shared counts as often as it is met; a slice's spare places count too). A statement '..UptoSaid' is the law's where the arguments, and the package variables that the reading takes, are together of bulk at most 1048576: NARROWER than '..Said'. Prove '..Said' where nothing that the law and all that it calls make is longer than what came in: it says more and counts as full. Else prove '..UptoSaid'. A law counts once. -/
mutual
def uptoBulk {H : Type} : DataW H → Nat
  | .lit (.string bytes) => bytes.length + 1
  | .lit _ => 1
  | .nil => 1
  | .ptr d => uptoBulk d + 1
  | .slice elems spare => uptoBulkAll elems + uptoBulkAll spare + 1
  | .agg parts => uptoBulkAll parts + 1
  | .iface _ d => uptoBulk d + 1
  | .map entries => uptoBulkEntries entries + 1
  | .held _ => 1
def uptoBulkAll {H : Type} : List (DataW H) → Nat
  | [] => 0
  | d :: r => uptoBulk d + uptoBulkAll r
def uptoBulkEntries {H : Type} : List (Lit × DataW H) → Nat
  | [] => 0
  | x :: r => uptoBulkEntry x + uptoBulkEntries r
def uptoBulkEntry {H : Type} : Lit × DataW H → Nat
  | (.string bytes, d) => bytes.length + uptoBulk d + 1
  | (_, d) => uptoBulk d + 1
 end
def uptoSmall : (H : Type) → List (DataW H) → Bool := fun _ ds => decide (uptoBulkAll ds ≤ 1048576)
def OpenSpec.upto (s : _root_.Go.ChangeSpec) : _root_.Go.OpenSpec := { _root_.Go.OpenSpec.ofChange s with cond := some uptoSmall }

/-- 'laws.FnExactSignMatrix', WHERE WHAT IT READS IS OF BULK AT MOST 1048576: true; the input reads as it did. -/
def fnExactSignMatrixUptoRow : OpenClaim := { program := "ytklifibiadiinaa", sum := "521fee35fe8f41d1d3d0c8a7ad02e10e3df859058192564e47433f88f89c3e78", func := "loop.example/dominotilings/laws.FnExactSignMatrix", spec := "fnExactSignMatrix", apart := false, narrowed := true }
def FnExactSignMatrixUptoSaid : Prop := fnExactSignMatrixUptoRow.holds Try.pinned (OpenSpec.upto fnExactSignMatrixSpec)

/-- 'laws.FnSignMatrix', WHERE WHAT IT READS IS OF BULK AT MOST 1048576: true; the input reads as it did. -/
def fnSignMatrixUptoRow : OpenClaim := { program := "ytklifibiadiinaa", sum := "521fee35fe8f41d1d3d0c8a7ad02e10e3df859058192564e47433f88f89c3e78", func := "loop.example/dominotilings/laws.FnSignMatrix", spec := "fnSignMatrix", unfollowed := true, recurses := true, apart := false, narrowed := true }
def FnSignMatrixUptoSaid : Prop := fnSignMatrixUptoRow.holds Try.pinned (OpenSpec.upto fnSignMatrixSpec)

/-- 'laws.FnExactTilingsDet', WHERE WHAT IT READS IS OF BULK AT MOST 1048576: true; the input reads as it did. -/
def fnExactTilingsDetUptoRow : OpenClaim := { program := "ytklifibiadiinaa", sum := "521fee35fe8f41d1d3d0c8a7ad02e10e3df859058192564e47433f88f89c3e78", func := "loop.example/dominotilings/laws.FnExactTilingsDet", spec := "fnExactTilingsDet", apart := false, narrowed := true }
def FnExactTilingsDetUptoSaid : Prop := fnExactTilingsDetUptoRow.holds Try.pinned (OpenSpec.upto fnExactTilingsDetSpec)

/-- 'laws.FnDet', WHERE WHAT IT READS IS OF BULK AT MOST 1048576: true; the input reads as it did. -/
def fnDetUptoRow : OpenClaim := { program := "ytklifibiadiinaa", sum := "521fee35fe8f41d1d3d0c8a7ad02e10e3df859058192564e47433f88f89c3e78", func := "loop.example/dominotilings/laws.FnDet", spec := "fnDet", unfollowed := true, recurses := true, apart := false, narrowed := true }
def FnDetUptoSaid : Prop := fnDetUptoRow.holds Try.pinned (OpenSpec.upto fnDetSpec)

/-- 'laws.FnTilingsDet', WHERE WHAT IT READS IS OF BULK AT MOST 1048576: true; the input reads as it did. -/
def fnTilingsDetUptoRow : OpenClaim := { program := "ytklifibiadiinaa", sum := "521fee35fe8f41d1d3d0c8a7ad02e10e3df859058192564e47433f88f89c3e78", func := "loop.example/dominotilings/laws.FnTilingsDet", spec := "fnTilingsDet", unfollowed := true, recurses := true, apart := false, narrowed := true }
def FnTilingsDetUptoSaid : Prop := fnTilingsDetUptoRow.holds Try.pinned (OpenSpec.upto fnTilingsDetSpec)

/-- 'laws.FnExactHeightsOk', WHERE WHAT IT READS IS OF BULK AT MOST 1048576: true; the input reads as it did. -/
def fnExactHeightsOkUptoRow : OpenClaim := { program := "ytklifibiadiinaa", sum := "521fee35fe8f41d1d3d0c8a7ad02e10e3df859058192564e47433f88f89c3e78", func := "loop.example/dominotilings/laws.FnExactHeightsOk", spec := "fnExactHeightsOk", unfollowed := true, recurses := true, apart := false, narrowed := true }
def FnExactHeightsOkUptoSaid : Prop := fnExactHeightsOkUptoRow.holds Try.pinned (OpenSpec.upto fnExactHeightsOkSpec)

/-- 'laws.FnExactHeightsHigh', WHERE WHAT IT READS IS OF BULK AT MOST 1048576: true; the input reads as it did. -/
def fnExactHeightsHighUptoRow : OpenClaim := { program := "ytklifibiadiinaa", sum := "521fee35fe8f41d1d3d0c8a7ad02e10e3df859058192564e47433f88f89c3e78", func := "loop.example/dominotilings/laws.FnExactHeightsHigh", spec := "fnExactHeightsHigh", unfollowed := true, recurses := true, apart := false, narrowed := true }
def FnExactHeightsHighUptoSaid : Prop := fnExactHeightsHighUptoRow.holds Try.pinned (OpenSpec.upto fnExactHeightsHighSpec)

end Rows
end Go.Proofs.Ytklifibiadiinaa
