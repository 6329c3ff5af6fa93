/-
  No cell of these rows narrows 'for every input' (looked for: loops, veiled, ifaces, maps, wideKeys, modest, calm, conditions, laid).
  DERIVED. THE GIVEN ROWS OF THIS SEAT. 12 by the template 'for every input the law returns true; each argument reads behind the call as it read before'; 0 by the template 'total and deterministic' (their statements: YtcagpfnlpjfgeaaTotals.lean).
  GIVEN WITH THE SEED: the statements are not yours to turn. If you find one false, say at which input.
  Laid BY PROGRAM, IN A SANDBOX (cutbox-rows.mjs): the forced cells as the released guide's own fill.sh prints them over the translation f1c353ccf6263b0a… (all of the seat's roots in one cut). By AI agents, Wed Nov 11 2026. No macro, syntax, notation, axiom, sorry.
-/
import Derived.Test.YtcagpfnlpjfgeaaChecked
import GoSem.Claim
import GoSem.ClaimJoined
import GoSem.ClaimMapViews
import Derived.JoinedTies
import Derived.KernelRfl
namespace Go.Proofs.Ytcagpfnlpjfgeaa
/- THE CELL 'sum', in the pinned program and in every row, IS THE sha256 OF THE DUMP (.gsa) THAT YtcagpfnlpjfgeaaProg.lean LOADS. Nothing in Lean hashes anything: it is a label: what it is worth is what the hold of that sum in a sandbox is worth. -/
noncomputable def Try.pinned : Pinned := { name := "ytcagpfnlpjfgeaa", sum := "f1c353ccf6263b0a3a92fd498ce68f17cab7be86ba7b653b87139ac14d4f5c5e", checked := Try.checked }
namespace Rows
def none {H : Type} : Left H := { results := [], args := [] }

/-- 'laws.FnTilingOk': WHATEVER THE INPUT: true; the input reads as it did. -/
def fnTilingOkSpec : ChangeSpec := { name := "fnTilingOk", fn := fun _ => fun
  | [d] => { results := [.lit (.bool true)], args := [d] }
  | _ => none }
def fnTilingOkRow : OpenClaim := { program := "ytcagpfnlpjfgeaa", sum := "f1c353ccf6263b0a3a92fd498ce68f17cab7be86ba7b653b87139ac14d4f5c5e", func := "loop.example/dominotilings/laws.FnTilingOk", spec := "fnTilingOk", unfollowed := true, recurses := true, apart := false }
def FnTilingOkSaid : Prop := fnTilingOkRow.holds Try.pinned (OpenSpec.ofChange fnTilingOkSpec)

/-- ITS FALSE NEIGHBOUR: 'it returns false'. Refute it at one input. -/
def fnTilingOkWrong : ChangeSpec := { name := "fnTilingOk", fn := fun _ => fun
  | [d] => { results := [.lit (.bool false)], args := [d] }
  | _ => none }
def FnTilingOkWrongFalsely : Prop := fnTilingOkRow.holds Try.pinned (OpenSpec.ofChange fnTilingOkWrong)

/-- 'laws.FnFlatMany': WHATEVER THE INPUT: true; the input reads as it did. -/
def fnFlatManySpec : ChangeSpec := { name := "fnFlatMany", fn := fun _ => fun
  | [d] => { results := [.lit (.bool true)], args := [d] }
  | _ => none }
def fnFlatManyRow : OpenClaim := { program := "ytcagpfnlpjfgeaa", sum := "f1c353ccf6263b0a3a92fd498ce68f17cab7be86ba7b653b87139ac14d4f5c5e", func := "loop.example/dominotilings/laws.FnFlatMany", spec := "fnFlatMany", unfollowed := true, recurses := true, apart := false }
def FnFlatManySaid : Prop := fnFlatManyRow.holds Try.pinned (OpenSpec.ofChange fnFlatManySpec)

/-- ITS FALSE NEIGHBOUR: 'it returns false'. Refute it at one input. -/
def fnFlatManyWrong : ChangeSpec := { name := "fnFlatMany", fn := fun _ => fun
  | [d] => { results := [.lit (.bool false)], args := [d] }
  | _ => none }
def FnFlatManyWrongFalsely : Prop := fnFlatManyRow.holds Try.pinned (OpenSpec.ofChange fnFlatManyWrong)

/-- 'laws.FnFaultsOf': WHATEVER THE INPUT: true; the input reads as it did. -/
def fnFaultsOfSpec : ChangeSpec := { name := "fnFaultsOf", fn := fun _ => fun
  | [d] => { results := [.lit (.bool true)], args := [d] }
  | _ => none }
def fnFaultsOfRow : OpenClaim := { program := "ytcagpfnlpjfgeaa", sum := "f1c353ccf6263b0a3a92fd498ce68f17cab7be86ba7b653b87139ac14d4f5c5e", func := "loop.example/dominotilings/laws.FnFaultsOf", spec := "fnFaultsOf", recurses := true, apart := false }
def FnFaultsOfSaid : Prop := fnFaultsOfRow.holds Try.pinned (OpenSpec.ofChange fnFaultsOfSpec)

/-- ITS FALSE NEIGHBOUR: 'it returns false'. Refute it at one input. -/
def fnFaultsOfWrong : ChangeSpec := { name := "fnFaultsOf", fn := fun _ => fun
  | [d] => { results := [.lit (.bool false)], args := [d] }
  | _ => none }
def FnFaultsOfWrongFalsely : Prop := fnFaultsOfRow.holds Try.pinned (OpenSpec.ofChange fnFaultsOfWrong)

/-- 'laws.FnExactSimple': WHATEVER THE INPUT: true; the input reads as it did. -/
def fnExactSimpleSpec : ChangeSpec := { name := "fnExactSimple", fn := fun _ => fun
  | [d] => { results := [.lit (.bool true)], args := [d] }
  | _ => none }
def fnExactSimpleRow : OpenClaim := { program := "ytcagpfnlpjfgeaa", sum := "f1c353ccf6263b0a3a92fd498ce68f17cab7be86ba7b653b87139ac14d4f5c5e", func := "loop.example/dominotilings/laws.FnExactSimple", spec := "fnExactSimple", unfollowed := true, recurses := true, apart := false }
def FnExactSimpleSaid : Prop := fnExactSimpleRow.holds Try.pinned (OpenSpec.ofChange fnExactSimpleSpec)

/-- ITS FALSE NEIGHBOUR: 'it returns false'. Refute it at one input. -/
def fnExactSimpleWrong : ChangeSpec := { name := "fnExactSimple", fn := fun _ => fun
  | [d] => { results := [.lit (.bool false)], args := [d] }
  | _ => none }
def FnExactSimpleWrongFalsely : Prop := fnExactSimpleRow.holds Try.pinned (OpenSpec.ofChange fnExactSimpleWrong)

/-- 'laws.FnSimple': WHATEVER THE INPUT: true; the input reads as it did. -/
def fnSimpleSpec : ChangeSpec := { name := "fnSimple", fn := fun _ => fun
  | [d] => { results := [.lit (.bool true)], args := [d] }
  | _ => none }
def fnSimpleRow : OpenClaim := { program := "ytcagpfnlpjfgeaa", sum := "f1c353ccf6263b0a3a92fd498ce68f17cab7be86ba7b653b87139ac14d4f5c5e", func := "loop.example/dominotilings/laws.FnSimple", spec := "fnSimple", unfollowed := true, recurses := true, apart := false }
def FnSimpleSaid : Prop := fnSimpleRow.holds Try.pinned (OpenSpec.ofChange fnSimpleSpec)

/-- ITS FALSE NEIGHBOUR: 'it returns false'. Refute it at one input. -/
def fnSimpleWrong : ChangeSpec := { name := "fnSimple", fn := fun _ => fun
  | [d] => { results := [.lit (.bool false)], args := [d] }
  | _ => none }
def FnSimpleWrongFalsely : Prop := fnSimpleRow.holds Try.pinned (OpenSpec.ofChange fnSimpleWrong)

/-- 'laws.FnExactFlipMay': WHATEVER THE INPUT: true; the input reads as it did. -/
def fnExactFlipMaySpec : ChangeSpec := { name := "fnExactFlipMay", fn := fun _ => fun
  | [d1, d2, d3] => { results := [.lit (.bool true)], args := [d1, d2, d3] }
  | _ => none }
def fnExactFlipMayRow : OpenClaim := { program := "ytcagpfnlpjfgeaa", sum := "f1c353ccf6263b0a3a92fd498ce68f17cab7be86ba7b653b87139ac14d4f5c5e", func := "loop.example/dominotilings/laws.FnExactFlipMay", spec := "fnExactFlipMay", apart := false }
def FnExactFlipMaySaid : Prop := fnExactFlipMayRow.holds Try.pinned (OpenSpec.ofChange fnExactFlipMaySpec)

/-- ITS FALSE NEIGHBOUR: 'it returns false'. Refute it at one input. -/
def fnExactFlipMayWrong : ChangeSpec := { name := "fnExactFlipMay", fn := fun _ => fun
  | [d1, d2, d3] => { results := [.lit (.bool false)], args := [d1, d2, d3] }
  | _ => none }
def FnExactFlipMayWrongFalsely : Prop := fnExactFlipMayRow.holds Try.pinned (OpenSpec.ofChange fnExactFlipMayWrong)

/-- 'laws.FnExactFrozen': WHATEVER THE INPUT: true; the input reads as it did. -/
def fnExactFrozenSpec : ChangeSpec := { name := "fnExactFrozen", fn := fun _ => fun
  | [d1, d2] => { results := [.lit (.bool true)], args := [d1, d2] }
  | _ => none }
def fnExactFrozenRow : OpenClaim := { program := "ytcagpfnlpjfgeaa", sum := "f1c353ccf6263b0a3a92fd498ce68f17cab7be86ba7b653b87139ac14d4f5c5e", func := "loop.example/dominotilings/laws.FnExactFrozen", spec := "fnExactFrozen", unfollowed := true, recurses := true, apart := false }
def FnExactFrozenSaid : Prop := fnExactFrozenRow.holds Try.pinned (OpenSpec.ofChange fnExactFrozenSpec)

/-- ITS FALSE NEIGHBOUR: 'it returns false'. Refute it at one input. -/
def fnExactFrozenWrong : ChangeSpec := { name := "fnExactFrozen", fn := fun _ => fun
  | [d1, d2] => { results := [.lit (.bool false)], args := [d1, d2] }
  | _ => none }
def FnExactFrozenWrongFalsely : Prop := fnExactFrozenRow.holds Try.pinned (OpenSpec.ofChange fnExactFrozenWrong)

/-- 'laws.FnExactFlipsOf': WHATEVER THE INPUT: true; the input reads as it did. -/
def fnExactFlipsOfSpec : ChangeSpec := { name := "fnExactFlipsOf", fn := fun _ => fun
  | [d1, d2] => { results := [.lit (.bool true)], args := [d1, d2] }
  | _ => none }
def fnExactFlipsOfRow : OpenClaim := { program := "ytcagpfnlpjfgeaa", sum := "f1c353ccf6263b0a3a92fd498ce68f17cab7be86ba7b653b87139ac14d4f5c5e", func := "loop.example/dominotilings/laws.FnExactFlipsOf", spec := "fnExactFlipsOf", unfollowed := true, recurses := true, apart := false }
def FnExactFlipsOfSaid : Prop := fnExactFlipsOfRow.holds Try.pinned (OpenSpec.ofChange fnExactFlipsOfSpec)

/-- ITS FALSE NEIGHBOUR: 'it returns false'. Refute it at one input. -/
def fnExactFlipsOfWrong : ChangeSpec := { name := "fnExactFlipsOf", fn := fun _ => fun
  | [d1, d2] => { results := [.lit (.bool false)], args := [d1, d2] }
  | _ => none }
def FnExactFlipsOfWrongFalsely : Prop := fnExactFlipsOfRow.holds Try.pinned (OpenSpec.ofChange fnExactFlipsOfWrong)

/-- 'laws.FnExactFlipOne': WHATEVER THE INPUT: true; the input reads as it did. -/
def fnExactFlipOneSpec : ChangeSpec := { name := "fnExactFlipOne", fn := fun _ => fun
  | [d1, d2, d3] => { results := [.lit (.bool true)], args := [d1, d2, d3] }
  | _ => none }
def fnExactFlipOneRow : OpenClaim := { program := "ytcagpfnlpjfgeaa", sum := "f1c353ccf6263b0a3a92fd498ce68f17cab7be86ba7b653b87139ac14d4f5c5e", func := "loop.example/dominotilings/laws.FnExactFlipOne", spec := "fnExactFlipOne", apart := false }
def FnExactFlipOneSaid : Prop := fnExactFlipOneRow.holds Try.pinned (OpenSpec.ofChange fnExactFlipOneSpec)

/-- ITS FALSE NEIGHBOUR: 'it returns false'. Refute it at one input. -/
def fnExactFlipOneWrong : ChangeSpec := { name := "fnExactFlipOne", fn := fun _ => fun
  | [d1, d2, d3] => { results := [.lit (.bool false)], args := [d1, d2, d3] }
  | _ => none }
def FnExactFlipOneWrongFalsely : Prop := fnExactFlipOneRow.holds Try.pinned (OpenSpec.ofChange fnExactFlipOneWrong)

/-- 'laws.FnExactFlipRun': WHATEVER THE INPUT: true; the input reads as it did. -/
def fnExactFlipRunSpec : ChangeSpec := { name := "fnExactFlipRun", fn := fun _ => fun
  | [d1, d2, d3] => { results := [.lit (.bool true)], args := [d1, d2, d3] }
  | _ => none }
def fnExactFlipRunRow : OpenClaim := { program := "ytcagpfnlpjfgeaa", sum := "f1c353ccf6263b0a3a92fd498ce68f17cab7be86ba7b653b87139ac14d4f5c5e", func := "loop.example/dominotilings/laws.FnExactFlipRun", spec := "fnExactFlipRun", apart := false }
def FnExactFlipRunSaid : Prop := fnExactFlipRunRow.holds Try.pinned (OpenSpec.ofChange fnExactFlipRunSpec)

/-- ITS FALSE NEIGHBOUR: 'it returns false'. Refute it at one input. -/
def fnExactFlipRunWrong : ChangeSpec := { name := "fnExactFlipRun", fn := fun _ => fun
  | [d1, d2, d3] => { results := [.lit (.bool false)], args := [d1, d2, d3] }
  | _ => none }
def FnExactFlipRunWrongFalsely : Prop := fnExactFlipRunRow.holds Try.pinned (OpenSpec.ofChange fnExactFlipRunWrong)

/-- 'laws.FnExactFlipLines': WHATEVER THE INPUT: true; the input reads as it did. -/
def fnExactFlipLinesSpec : ChangeSpec := { name := "fnExactFlipLines", fn := fun _ => fun
  | [d] => { results := [.lit (.bool true)], args := [d] }
  | _ => none }
def fnExactFlipLinesRow : OpenClaim := { program := "ytcagpfnlpjfgeaa", sum := "f1c353ccf6263b0a3a92fd498ce68f17cab7be86ba7b653b87139ac14d4f5c5e", func := "loop.example/dominotilings/laws.FnExactFlipLines", spec := "fnExactFlipLines", unfollowed := true, recurses := true, apart := false }
def FnExactFlipLinesSaid : Prop := fnExactFlipLinesRow.holds Try.pinned (OpenSpec.ofChange fnExactFlipLinesSpec)

/-- ITS FALSE NEIGHBOUR: 'it returns false'. Refute it at one input. -/
def fnExactFlipLinesWrong : ChangeSpec := { name := "fnExactFlipLines", fn := fun _ => fun
  | [d] => { results := [.lit (.bool false)], args := [d] }
  | _ => none }
def FnExactFlipLinesWrongFalsely : Prop := fnExactFlipLinesRow.holds Try.pinned (OpenSpec.ofChange fnExactFlipLinesWrong)

/-- 'laws.FnFlipMay': WHATEVER THE INPUT: true; the input reads as it did. -/
def fnFlipMaySpec : ChangeSpec := { name := "fnFlipMay", fn := fun _ => fun
  | [d] => { results := [.lit (.bool true)], args := [d] }
  | _ => none }
def fnFlipMayRow : OpenClaim := { program := "ytcagpfnlpjfgeaa", sum := "f1c353ccf6263b0a3a92fd498ce68f17cab7be86ba7b653b87139ac14d4f5c5e", func := "loop.example/dominotilings/laws.FnFlipMay", spec := "fnFlipMay", recurses := true, apart := false }
def FnFlipMaySaid : Prop := fnFlipMayRow.holds Try.pinned (OpenSpec.ofChange fnFlipMaySpec)

/-- ITS FALSE NEIGHBOUR: 'it returns false'. Refute it at one input. -/
def fnFlipMayWrong : ChangeSpec := { name := "fnFlipMay", fn := fun _ => fun
  | [d] => { results := [.lit (.bool false)], args := [d] }
  | _ => none }
def FnFlipMayWrongFalsely : Prop := fnFlipMayRow.holds Try.pinned (OpenSpec.ofChange fnFlipMayWrong)

/- THE SECOND FORM. 'bulk': how many values and letters a reading holds, each counted each time it is reached (what is shared counts as often as it is met; a slice's spare places count too). A statement '..UptoSaid' is the law's where the arguments, and the package variables that the reading takes, are together of bulk at most 1048576: NARROWER than '..Said'. Prove '..Said' where nothing that the law and all that it calls make is longer than what came in: it says more and counts as full. Else prove '..UptoSaid'. A law counts once. -/
mutual
def uptoBulk {H : Type} : DataW H → Nat
  | .lit (.string bytes) => bytes.length + 1
  | .lit _ => 1
  | .nil => 1
  | .ptr d => uptoBulk d + 1
  | .slice elems spare => uptoBulkAll elems + uptoBulkAll spare + 1
  | .agg parts => uptoBulkAll parts + 1
  | .iface _ d => uptoBulk d + 1
  | .map entries => uptoBulkEntries entries + 1
  | .held _ => 1
def uptoBulkAll {H : Type} : List (DataW H) → Nat
  | [] => 0
  | d :: r => uptoBulk d + uptoBulkAll r
def uptoBulkEntries {H : Type} : List (Lit × DataW H) → Nat
  | [] => 0
  | x :: r => uptoBulkEntry x + uptoBulkEntries r
def uptoBulkEntry {H : Type} : Lit × DataW H → Nat
  | (.string bytes, d) => bytes.length + uptoBulk d + 1
  | (_, d) => uptoBulk d + 1
 end
def uptoSmall : (H : Type) → List (DataW H) → Bool := fun _ ds => decide (uptoBulkAll ds ≤ 1048576)
def OpenSpec.upto (s : _root_.Go.ChangeSpec) : _root_.Go.OpenSpec := { _root_.Go.OpenSpec.ofChange s with cond := some uptoSmall }

/-- 'laws.FnTilingOk', WHERE WHAT IT READS IS OF BULK AT MOST 1048576: true; the input reads as it did. -/
def fnTilingOkUptoRow : OpenClaim := { program := "ytcagpfnlpjfgeaa", sum := "f1c353ccf6263b0a3a92fd498ce68f17cab7be86ba7b653b87139ac14d4f5c5e", func := "loop.example/dominotilings/laws.FnTilingOk", spec := "fnTilingOk", unfollowed := true, recurses := true, apart := false, narrowed := true }
def FnTilingOkUptoSaid : Prop := fnTilingOkUptoRow.holds Try.pinned (OpenSpec.upto fnTilingOkSpec)

/-- 'laws.FnFlatMany', WHERE WHAT IT READS IS OF BULK AT MOST 1048576: true; the input reads as it did. -/
def fnFlatManyUptoRow : OpenClaim := { program := "ytcagpfnlpjfgeaa", sum := "f1c353ccf6263b0a3a92fd498ce68f17cab7be86ba7b653b87139ac14d4f5c5e", func := "loop.example/dominotilings/laws.FnFlatMany", spec := "fnFlatMany", unfollowed := true, recurses := true, apart := false, narrowed := true }
def FnFlatManyUptoSaid : Prop := fnFlatManyUptoRow.holds Try.pinned (OpenSpec.upto fnFlatManySpec)

/-- 'laws.FnFaultsOf', WHERE WHAT IT READS IS OF BULK AT MOST 1048576: true; the input reads as it did. -/
def fnFaultsOfUptoRow : OpenClaim := { program := "ytcagpfnlpjfgeaa", sum := "f1c353ccf6263b0a3a92fd498ce68f17cab7be86ba7b653b87139ac14d4f5c5e", func := "loop.example/dominotilings/laws.FnFaultsOf", spec := "fnFaultsOf", recurses := true, apart := false, narrowed := true }
def FnFaultsOfUptoSaid : Prop := fnFaultsOfUptoRow.holds Try.pinned (OpenSpec.upto fnFaultsOfSpec)

/-- 'laws.FnExactSimple', WHERE WHAT IT READS IS OF BULK AT MOST 1048576: true; the input reads as it did. -/
def fnExactSimpleUptoRow : OpenClaim := { program := "ytcagpfnlpjfgeaa", sum := "f1c353ccf6263b0a3a92fd498ce68f17cab7be86ba7b653b87139ac14d4f5c5e", func := "loop.example/dominotilings/laws.FnExactSimple", spec := "fnExactSimple", unfollowed := true, recurses := true, apart := false, narrowed := true }
def FnExactSimpleUptoSaid : Prop := fnExactSimpleUptoRow.holds Try.pinned (OpenSpec.upto fnExactSimpleSpec)

/-- 'laws.FnSimple', WHERE WHAT IT READS IS OF BULK AT MOST 1048576: true; the input reads as it did. -/
def fnSimpleUptoRow : OpenClaim := { program := "ytcagpfnlpjfgeaa", sum := "f1c353ccf6263b0a3a92fd498ce68f17cab7be86ba7b653b87139ac14d4f5c5e", func := "loop.example/dominotilings/laws.FnSimple", spec := "fnSimple", unfollowed := true, recurses := true, apart := false, narrowed := true }
def FnSimpleUptoSaid : Prop := fnSimpleUptoRow.holds Try.pinned (OpenSpec.upto fnSimpleSpec)

/-- 'laws.FnExactFlipMay', WHERE WHAT IT READS IS OF BULK AT MOST 1048576: true; the input reads as it did. -/
def fnExactFlipMayUptoRow : OpenClaim := { program := "ytcagpfnlpjfgeaa", sum := "f1c353ccf6263b0a3a92fd498ce68f17cab7be86ba7b653b87139ac14d4f5c5e", func := "loop.example/dominotilings/laws.FnExactFlipMay", spec := "fnExactFlipMay", apart := false, narrowed := true }
def FnExactFlipMayUptoSaid : Prop := fnExactFlipMayUptoRow.holds Try.pinned (OpenSpec.upto fnExactFlipMaySpec)

/-- 'laws.FnExactFrozen', WHERE WHAT IT READS IS OF BULK AT MOST 1048576: true; the input reads as it did. -/
def fnExactFrozenUptoRow : OpenClaim := { program := "ytcagpfnlpjfgeaa", sum := "f1c353ccf6263b0a3a92fd498ce68f17cab7be86ba7b653b87139ac14d4f5c5e", func := "loop.example/dominotilings/laws.FnExactFrozen", spec := "fnExactFrozen", unfollowed := true, recurses := true, apart := false, narrowed := true }
def FnExactFrozenUptoSaid : Prop := fnExactFrozenUptoRow.holds Try.pinned (OpenSpec.upto fnExactFrozenSpec)

/-- 'laws.FnExactFlipsOf', WHERE WHAT IT READS IS OF BULK AT MOST 1048576: true; the input reads as it did. -/
def fnExactFlipsOfUptoRow : OpenClaim := { program := "ytcagpfnlpjfgeaa", sum := "f1c353ccf6263b0a3a92fd498ce68f17cab7be86ba7b653b87139ac14d4f5c5e", func := "loop.example/dominotilings/laws.FnExactFlipsOf", spec := "fnExactFlipsOf", unfollowed := true, recurses := true, apart := false, narrowed := true }
def FnExactFlipsOfUptoSaid : Prop := fnExactFlipsOfUptoRow.holds Try.pinned (OpenSpec.upto fnExactFlipsOfSpec)

/-- 'laws.FnExactFlipOne', WHERE WHAT IT READS IS OF BULK AT MOST 1048576: true; the input reads as it did. -/
def fnExactFlipOneUptoRow : OpenClaim := { program := "ytcagpfnlpjfgeaa", sum := "f1c353ccf6263b0a3a92fd498ce68f17cab7be86ba7b653b87139ac14d4f5c5e", func := "loop.example/dominotilings/laws.FnExactFlipOne", spec := "fnExactFlipOne", apart := false, narrowed := true }
def FnExactFlipOneUptoSaid : Prop := fnExactFlipOneUptoRow.holds Try.pinned (OpenSpec.upto fnExactFlipOneSpec)

/-- 'laws.FnExactFlipRun', WHERE WHAT IT READS IS OF BULK AT MOST 1048576: true; the input reads as it did. -/
def fnExactFlipRunUptoRow : OpenClaim := { program := "ytcagpfnlpjfgeaa", sum := "f1c353ccf6263b0a3a92fd498ce68f17cab7be86ba7b653b87139ac14d4f5c5e", func := "loop.example/dominotilings/laws.FnExactFlipRun", spec := "fnExactFlipRun", apart := false, narrowed := true }
def FnExactFlipRunUptoSaid : Prop := fnExactFlipRunUptoRow.holds Try.pinned (OpenSpec.upto fnExactFlipRunSpec)

/-- 'laws.FnExactFlipLines', WHERE WHAT IT READS IS OF BULK AT MOST 1048576: true; the input reads as it did. -/
def fnExactFlipLinesUptoRow : OpenClaim := { program := "ytcagpfnlpjfgeaa", sum := "f1c353ccf6263b0a3a92fd498ce68f17cab7be86ba7b653b87139ac14d4f5c5e", func := "loop.example/dominotilings/laws.FnExactFlipLines", spec := "fnExactFlipLines", unfollowed := true, recurses := true, apart := false, narrowed := true }
def FnExactFlipLinesUptoSaid : Prop := fnExactFlipLinesUptoRow.holds Try.pinned (OpenSpec.upto fnExactFlipLinesSpec)

/-- 'laws.FnFlipMay', WHERE WHAT IT READS IS OF BULK AT MOST 1048576: true; the input reads as it did. -/
def fnFlipMayUptoRow : OpenClaim := { program := "ytcagpfnlpjfgeaa", sum := "f1c353ccf6263b0a3a92fd498ce68f17cab7be86ba7b653b87139ac14d4f5c5e", func := "loop.example/dominotilings/laws.FnFlipMay", spec := "fnFlipMay", recurses := true, apart := false, narrowed := true }
def FnFlipMayUptoSaid : Prop := fnFlipMayUptoRow.holds Try.pinned (OpenSpec.upto fnFlipMaySpec)

end Rows
end Go.Proofs.Ytcagpfnlpjfgeaa
