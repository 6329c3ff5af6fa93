/-
  No cell of these rows narrows 'for every input' (looked for: loops, veiled, ifaces, maps, wideKeys, modest, calm, conditions, laid).
  DERIVED. THE GIVEN ROWS OF THIS SEAT. 12 by the template 'for every input the law returns true; each argument reads behind the call as it read before'; 0 by the template 'total and deterministic' (their statements: YtnmoaecihmjnnaaTotals.lean).
  GIVEN WITH THE SEED: the statements are not yours to turn. If you find one false, say at which input.
  Laid BY PROGRAM, IN A SANDBOX (cutbox-rows.mjs): the forced cells as the released guide's own fill.sh prints them over the translation 27366a84de416a3c… (all of the seat's roots in one cut). By AI agents, Wed Nov 11 2026. No macro, syntax, notation, axiom, sorry.
-/
import Derived.Test.YtnmoaecihmjnnaaChecked
import GoSem.Claim
import GoSem.ClaimJoined
import GoSem.ClaimMapViews
import Derived.JoinedTies
import Derived.KernelRfl
namespace Go.Proofs.Ytnmoaecihmjnnaa
/- THE CELL 'sum', in the pinned program and in every row, IS THE sha256 OF THE DUMP (.gsa) THAT YtnmoaecihmjnnaaProg.lean LOADS. Nothing in Lean hashes anything: it is a label: what it is worth is what the hold of that sum in a sandbox is worth. -/
noncomputable def Try.pinned : Pinned := { name := "ytnmoaecihmjnnaa", sum := "27366a84de416a3c483c6a911463ead9a4d2476b92abc2c88fc6aef8ef0d2e3f", checked := Try.checked }
namespace Rows
def none {H : Type} : Left H := { results := [], args := [] }

/-- 'laws.FnLaidOk': WHATEVER THE INPUT: true; the input reads as it did. -/
def fnLaidOkSpec : ChangeSpec := { name := "fnLaidOk", fn := fun _ => fun
  | [d] => { results := [.lit (.bool true)], args := [d] }
  | _ => none }
def fnLaidOkRow : OpenClaim := { program := "ytnmoaecihmjnnaa", sum := "27366a84de416a3c483c6a911463ead9a4d2476b92abc2c88fc6aef8ef0d2e3f", func := "loop.example/dominotilings/laws.FnLaidOk", spec := "fnLaidOk", recurses := true, apart := false }
def FnLaidOkSaid : Prop := fnLaidOkRow.holds Try.pinned (OpenSpec.ofChange fnLaidOkSpec)

/-- ITS FALSE NEIGHBOUR: 'it returns false'. Refute it at one input. -/
def fnLaidOkWrong : ChangeSpec := { name := "fnLaidOk", fn := fun _ => fun
  | [d] => { results := [.lit (.bool false)], args := [d] }
  | _ => none }
def FnLaidOkWrongFalsely : Prop := fnLaidOkRow.holds Try.pinned (OpenSpec.ofChange fnLaidOkWrong)

/-- 'laws.FnTilingFirst': WHATEVER THE INPUT: true; the input reads as it did. -/
def fnTilingFirstSpec : ChangeSpec := { name := "fnTilingFirst", fn := fun _ => fun
  | [d] => { results := [.lit (.bool true)], args := [d] }
  | _ => none }
def fnTilingFirstRow : OpenClaim := { program := "ytnmoaecihmjnnaa", sum := "27366a84de416a3c483c6a911463ead9a4d2476b92abc2c88fc6aef8ef0d2e3f", func := "loop.example/dominotilings/laws.FnTilingFirst", spec := "fnTilingFirst", unfollowed := true, recurses := true, apart := false }
def FnTilingFirstSaid : Prop := fnTilingFirstRow.holds Try.pinned (OpenSpec.ofChange fnTilingFirstSpec)

/-- ITS FALSE NEIGHBOUR: 'it returns false'. Refute it at one input. -/
def fnTilingFirstWrong : ChangeSpec := { name := "fnTilingFirst", fn := fun _ => fun
  | [d] => { results := [.lit (.bool false)], args := [d] }
  | _ => none }
def FnTilingFirstWrongFalsely : Prop := fnTilingFirstRow.holds Try.pinned (OpenSpec.ofChange fnTilingFirstWrong)

/-- 'laws.FnLaidMany': WHATEVER THE INPUT: true; the input reads as it did. -/
def fnLaidManySpec : ChangeSpec := { name := "fnLaidMany", fn := fun _ => fun
  | [d] => { results := [.lit (.bool true)], args := [d] }
  | _ => none }
def fnLaidManyRow : OpenClaim := { program := "ytnmoaecihmjnnaa", sum := "27366a84de416a3c483c6a911463ead9a4d2476b92abc2c88fc6aef8ef0d2e3f", func := "loop.example/dominotilings/laws.FnLaidMany", spec := "fnLaidMany", recurses := true, apart := false }
def FnLaidManySaid : Prop := fnLaidManyRow.holds Try.pinned (OpenSpec.ofChange fnLaidManySpec)

/-- ITS FALSE NEIGHBOUR: 'it returns false'. Refute it at one input. -/
def fnLaidManyWrong : ChangeSpec := { name := "fnLaidMany", fn := fun _ => fun
  | [d] => { results := [.lit (.bool false)], args := [d] }
  | _ => none }
def FnLaidManyWrongFalsely : Prop := fnLaidManyRow.holds Try.pinned (OpenSpec.ofChange fnLaidManyWrong)

/-- 'laws.FnTilingTurn': WHATEVER THE INPUT: true; the input reads as it did. -/
def fnTilingTurnSpec : ChangeSpec := { name := "fnTilingTurn", fn := fun _ => fun
  | [d] => { results := [.lit (.bool true)], args := [d] }
  | _ => none }
def fnTilingTurnRow : OpenClaim := { program := "ytnmoaecihmjnnaa", sum := "27366a84de416a3c483c6a911463ead9a4d2476b92abc2c88fc6aef8ef0d2e3f", func := "loop.example/dominotilings/laws.FnTilingTurn", spec := "fnTilingTurn", unfollowed := true, recurses := true, apart := false }
def FnTilingTurnSaid : Prop := fnTilingTurnRow.holds Try.pinned (OpenSpec.ofChange fnTilingTurnSpec)

/-- ITS FALSE NEIGHBOUR: 'it returns false'. Refute it at one input. -/
def fnTilingTurnWrong : ChangeSpec := { name := "fnTilingTurn", fn := fun _ => fun
  | [d] => { results := [.lit (.bool false)], args := [d] }
  | _ => none }
def FnTilingTurnWrongFalsely : Prop := fnTilingTurnRow.holds Try.pinned (OpenSpec.ofChange fnTilingTurnWrong)

/-- 'laws.FnLiftOne': WHATEVER THE INPUT: true; the input reads as it did. -/
def fnLiftOneSpec : ChangeSpec := { name := "fnLiftOne", fn := fun _ => fun
  | [d] => { results := [.lit (.bool true)], args := [d] }
  | _ => none }
def fnLiftOneRow : OpenClaim := { program := "ytnmoaecihmjnnaa", sum := "27366a84de416a3c483c6a911463ead9a4d2476b92abc2c88fc6aef8ef0d2e3f", func := "loop.example/dominotilings/laws.FnLiftOne", spec := "fnLiftOne", recurses := true, apart := false }
def FnLiftOneSaid : Prop := fnLiftOneRow.holds Try.pinned (OpenSpec.ofChange fnLiftOneSpec)

/-- ITS FALSE NEIGHBOUR: 'it returns false'. Refute it at one input. -/
def fnLiftOneWrong : ChangeSpec := { name := "fnLiftOne", fn := fun _ => fun
  | [d] => { results := [.lit (.bool false)], args := [d] }
  | _ => none }
def FnLiftOneWrongFalsely : Prop := fnLiftOneRow.holds Try.pinned (OpenSpec.ofChange fnLiftOneWrong)

/-- 'laws.FnTilingFlip': WHATEVER THE INPUT: true; the input reads as it did. -/
def fnTilingFlipSpec : ChangeSpec := { name := "fnTilingFlip", fn := fun _ => fun
  | [d] => { results := [.lit (.bool true)], args := [d] }
  | _ => none }
def fnTilingFlipRow : OpenClaim := { program := "ytnmoaecihmjnnaa", sum := "27366a84de416a3c483c6a911463ead9a4d2476b92abc2c88fc6aef8ef0d2e3f", func := "loop.example/dominotilings/laws.FnTilingFlip", spec := "fnTilingFlip", unfollowed := true, recurses := true, apart := false }
def FnTilingFlipSaid : Prop := fnTilingFlipRow.holds Try.pinned (OpenSpec.ofChange fnTilingFlipSpec)

/-- ITS FALSE NEIGHBOUR: 'it returns false'. Refute it at one input. -/
def fnTilingFlipWrong : ChangeSpec := { name := "fnTilingFlip", fn := fun _ => fun
  | [d] => { results := [.lit (.bool false)], args := [d] }
  | _ => none }
def FnTilingFlipWrongFalsely : Prop := fnTilingFlipRow.holds Try.pinned (OpenSpec.ofChange fnTilingFlipWrong)

/-- 'laws.FnLayOne': WHATEVER THE INPUT: true; the input reads as it did. -/
def fnLayOneSpec : ChangeSpec := { name := "fnLayOne", fn := fun _ => fun
  | [d] => { results := [.lit (.bool true)], args := [d] }
  | _ => none }
def fnLayOneRow : OpenClaim := { program := "ytnmoaecihmjnnaa", sum := "27366a84de416a3c483c6a911463ead9a4d2476b92abc2c88fc6aef8ef0d2e3f", func := "loop.example/dominotilings/laws.FnLayOne", spec := "fnLayOne", recurses := true, apart := false }
def FnLayOneSaid : Prop := fnLayOneRow.holds Try.pinned (OpenSpec.ofChange fnLayOneSpec)

/-- ITS FALSE NEIGHBOUR: 'it returns false'. Refute it at one input. -/
def fnLayOneWrong : ChangeSpec := { name := "fnLayOne", fn := fun _ => fun
  | [d] => { results := [.lit (.bool false)], args := [d] }
  | _ => none }
def FnLayOneWrongFalsely : Prop := fnLayOneRow.holds Try.pinned (OpenSpec.ofChange fnLayOneWrong)

/-- 'laws.FnFaultsOf': WHATEVER THE INPUT: true; the input reads as it did. -/
def fnFaultsOfSpec : ChangeSpec := { name := "fnFaultsOf", fn := fun _ => fun
  | [d] => { results := [.lit (.bool true)], args := [d] }
  | _ => none }
def fnFaultsOfRow : OpenClaim := { program := "ytnmoaecihmjnnaa", sum := "27366a84de416a3c483c6a911463ead9a4d2476b92abc2c88fc6aef8ef0d2e3f", func := "loop.example/dominotilings/laws.FnFaultsOf", spec := "fnFaultsOf", recurses := true, apart := false }
def FnFaultsOfSaid : Prop := fnFaultsOfRow.holds Try.pinned (OpenSpec.ofChange fnFaultsOfSpec)

/-- ITS FALSE NEIGHBOUR: 'it returns false'. Refute it at one input. -/
def fnFaultsOfWrong : ChangeSpec := { name := "fnFaultsOf", fn := fun _ => fun
  | [d] => { results := [.lit (.bool false)], args := [d] }
  | _ => none }
def FnFaultsOfWrongFalsely : Prop := fnFaultsOfRow.holds Try.pinned (OpenSpec.ofChange fnFaultsOfWrong)

/-- 'laws.FnComplete': WHATEVER THE INPUT: true; the input reads as it did. -/
def fnCompleteSpec : ChangeSpec := { name := "fnComplete", fn := fun _ => fun
  | [d] => { results := [.lit (.bool true)], args := [d] }
  | _ => none }
def fnCompleteRow : OpenClaim := { program := "ytnmoaecihmjnnaa", sum := "27366a84de416a3c483c6a911463ead9a4d2476b92abc2c88fc6aef8ef0d2e3f", func := "loop.example/dominotilings/laws.FnComplete", spec := "fnComplete", unfollowed := true, recurses := true, apart := false }
def FnCompleteSaid : Prop := fnCompleteRow.holds Try.pinned (OpenSpec.ofChange fnCompleteSpec)

/-- ITS FALSE NEIGHBOUR: 'it returns false'. Refute it at one input. -/
def fnCompleteWrong : ChangeSpec := { name := "fnComplete", fn := fun _ => fun
  | [d] => { results := [.lit (.bool false)], args := [d] }
  | _ => none }
def FnCompleteWrongFalsely : Prop := fnCompleteRow.holds Try.pinned (OpenSpec.ofChange fnCompleteWrong)

/-- 'laws.FnTilingsAll': WHATEVER THE INPUT: true; the input reads as it did. -/
def fnTilingsAllSpec : ChangeSpec := { name := "fnTilingsAll", fn := fun _ => fun
  | [d] => { results := [.lit (.bool true)], args := [d] }
  | _ => none }
def fnTilingsAllRow : OpenClaim := { program := "ytnmoaecihmjnnaa", sum := "27366a84de416a3c483c6a911463ead9a4d2476b92abc2c88fc6aef8ef0d2e3f", func := "loop.example/dominotilings/laws.FnTilingsAll", spec := "fnTilingsAll", unfollowed := true, recurses := true, apart := false }
def FnTilingsAllSaid : Prop := fnTilingsAllRow.holds Try.pinned (OpenSpec.ofChange fnTilingsAllSpec)

/-- ITS FALSE NEIGHBOUR: 'it returns false'. Refute it at one input. -/
def fnTilingsAllWrong : ChangeSpec := { name := "fnTilingsAll", fn := fun _ => fun
  | [d] => { results := [.lit (.bool false)], args := [d] }
  | _ => none }
def FnTilingsAllWrongFalsely : Prop := fnTilingsAllRow.holds Try.pinned (OpenSpec.ofChange fnTilingsAllWrong)

/-- 'laws.FnTilingOk': WHATEVER THE INPUT: true; the input reads as it did. -/
def fnTilingOkSpec : ChangeSpec := { name := "fnTilingOk", fn := fun _ => fun
  | [d] => { results := [.lit (.bool true)], args := [d] }
  | _ => none }
def fnTilingOkRow : OpenClaim := { program := "ytnmoaecihmjnnaa", sum := "27366a84de416a3c483c6a911463ead9a4d2476b92abc2c88fc6aef8ef0d2e3f", func := "loop.example/dominotilings/laws.FnTilingOk", spec := "fnTilingOk", unfollowed := true, recurses := true, apart := false }
def FnTilingOkSaid : Prop := fnTilingOkRow.holds Try.pinned (OpenSpec.ofChange fnTilingOkSpec)

/-- ITS FALSE NEIGHBOUR: 'it returns false'. Refute it at one input. -/
def fnTilingOkWrong : ChangeSpec := { name := "fnTilingOk", fn := fun _ => fun
  | [d] => { results := [.lit (.bool false)], args := [d] }
  | _ => none }
def FnTilingOkWrongFalsely : Prop := fnTilingOkRow.holds Try.pinned (OpenSpec.ofChange fnTilingOkWrong)

/-- 'laws.FnFlatMany': WHATEVER THE INPUT: true; the input reads as it did. -/
def fnFlatManySpec : ChangeSpec := { name := "fnFlatMany", fn := fun _ => fun
  | [d] => { results := [.lit (.bool true)], args := [d] }
  | _ => none }
def fnFlatManyRow : OpenClaim := { program := "ytnmoaecihmjnnaa", sum := "27366a84de416a3c483c6a911463ead9a4d2476b92abc2c88fc6aef8ef0d2e3f", func := "loop.example/dominotilings/laws.FnFlatMany", spec := "fnFlatMany", unfollowed := true, recurses := true, apart := false }
def FnFlatManySaid : Prop := fnFlatManyRow.holds Try.pinned (OpenSpec.ofChange fnFlatManySpec)

/-- ITS FALSE NEIGHBOUR: 'it returns false'. Refute it at one input. -/
def fnFlatManyWrong : ChangeSpec := { name := "fnFlatMany", fn := fun _ => fun
  | [d] => { results := [.lit (.bool false)], args := [d] }
  | _ => none }
def FnFlatManyWrongFalsely : Prop := fnFlatManyRow.holds Try.pinned (OpenSpec.ofChange fnFlatManyWrong)

/- THE SECOND FORM. 'bulk': how many values and letters a reading holds, each counted each time it is reached (what is shared counts as often as it is met; a slice's spare places count too). A statement '..UptoSaid' is the law's where the arguments, and the package variables that the reading takes, are together of bulk at most 1048576: NARROWER than '..Said'. Prove '..Said' where nothing that the law and all that it calls make is longer than what came in: it says more and counts as full. Else prove '..UptoSaid'. A law counts once. -/
mutual
def uptoBulk {H : Type} : DataW H → Nat
  | .lit (.string bytes) => bytes.length + 1
  | .lit _ => 1
  | .nil => 1
  | .ptr d => uptoBulk d + 1
  | .slice elems spare => uptoBulkAll elems + uptoBulkAll spare + 1
  | .agg parts => uptoBulkAll parts + 1
  | .iface _ d => uptoBulk d + 1
  | .map entries => uptoBulkEntries entries + 1
  | .held _ => 1
def uptoBulkAll {H : Type} : List (DataW H) → Nat
  | [] => 0
  | d :: r => uptoBulk d + uptoBulkAll r
def uptoBulkEntries {H : Type} : List (Lit × DataW H) → Nat
  | [] => 0
  | x :: r => uptoBulkEntry x + uptoBulkEntries r
def uptoBulkEntry {H : Type} : Lit × DataW H → Nat
  | (.string bytes, d) => bytes.length + uptoBulk d + 1
  | (_, d) => uptoBulk d + 1
 end
def uptoSmall : (H : Type) → List (DataW H) → Bool := fun _ ds => decide (uptoBulkAll ds ≤ 1048576)
def OpenSpec.upto (s : _root_.Go.ChangeSpec) : _root_.Go.OpenSpec := { _root_.Go.OpenSpec.ofChange s with cond := some uptoSmall }

/-- 'laws.FnLaidOk', WHERE WHAT IT READS IS OF BULK AT MOST 1048576: true; the input reads as it did. -/
def fnLaidOkUptoRow : OpenClaim := { program := "ytnmoaecihmjnnaa", sum := "27366a84de416a3c483c6a911463ead9a4d2476b92abc2c88fc6aef8ef0d2e3f", func := "loop.example/dominotilings/laws.FnLaidOk", spec := "fnLaidOk", recurses := true, apart := false, narrowed := true }
def FnLaidOkUptoSaid : Prop := fnLaidOkUptoRow.holds Try.pinned (OpenSpec.upto fnLaidOkSpec)

/-- 'laws.FnTilingFirst', WHERE WHAT IT READS IS OF BULK AT MOST 1048576: true; the input reads as it did. -/
def fnTilingFirstUptoRow : OpenClaim := { program := "ytnmoaecihmjnnaa", sum := "27366a84de416a3c483c6a911463ead9a4d2476b92abc2c88fc6aef8ef0d2e3f", func := "loop.example/dominotilings/laws.FnTilingFirst", spec := "fnTilingFirst", unfollowed := true, recurses := true, apart := false, narrowed := true }
def FnTilingFirstUptoSaid : Prop := fnTilingFirstUptoRow.holds Try.pinned (OpenSpec.upto fnTilingFirstSpec)

/-- 'laws.FnLaidMany', WHERE WHAT IT READS IS OF BULK AT MOST 1048576: true; the input reads as it did. -/
def fnLaidManyUptoRow : OpenClaim := { program := "ytnmoaecihmjnnaa", sum := "27366a84de416a3c483c6a911463ead9a4d2476b92abc2c88fc6aef8ef0d2e3f", func := "loop.example/dominotilings/laws.FnLaidMany", spec := "fnLaidMany", recurses := true, apart := false, narrowed := true }
def FnLaidManyUptoSaid : Prop := fnLaidManyUptoRow.holds Try.pinned (OpenSpec.upto fnLaidManySpec)

/-- 'laws.FnTilingTurn', WHERE WHAT IT READS IS OF BULK AT MOST 1048576: true; the input reads as it did. -/
def fnTilingTurnUptoRow : OpenClaim := { program := "ytnmoaecihmjnnaa", sum := "27366a84de416a3c483c6a911463ead9a4d2476b92abc2c88fc6aef8ef0d2e3f", func := "loop.example/dominotilings/laws.FnTilingTurn", spec := "fnTilingTurn", unfollowed := true, recurses := true, apart := false, narrowed := true }
def FnTilingTurnUptoSaid : Prop := fnTilingTurnUptoRow.holds Try.pinned (OpenSpec.upto fnTilingTurnSpec)

/-- 'laws.FnLiftOne', WHERE WHAT IT READS IS OF BULK AT MOST 1048576: true; the input reads as it did. -/
def fnLiftOneUptoRow : OpenClaim := { program := "ytnmoaecihmjnnaa", sum := "27366a84de416a3c483c6a911463ead9a4d2476b92abc2c88fc6aef8ef0d2e3f", func := "loop.example/dominotilings/laws.FnLiftOne", spec := "fnLiftOne", recurses := true, apart := false, narrowed := true }
def FnLiftOneUptoSaid : Prop := fnLiftOneUptoRow.holds Try.pinned (OpenSpec.upto fnLiftOneSpec)

/-- 'laws.FnTilingFlip', WHERE WHAT IT READS IS OF BULK AT MOST 1048576: true; the input reads as it did. -/
def fnTilingFlipUptoRow : OpenClaim := { program := "ytnmoaecihmjnnaa", sum := "27366a84de416a3c483c6a911463ead9a4d2476b92abc2c88fc6aef8ef0d2e3f", func := "loop.example/dominotilings/laws.FnTilingFlip", spec := "fnTilingFlip", unfollowed := true, recurses := true, apart := false, narrowed := true }
def FnTilingFlipUptoSaid : Prop := fnTilingFlipUptoRow.holds Try.pinned (OpenSpec.upto fnTilingFlipSpec)

/-- 'laws.FnLayOne', WHERE WHAT IT READS IS OF BULK AT MOST 1048576: true; the input reads as it did. -/
def fnLayOneUptoRow : OpenClaim := { program := "ytnmoaecihmjnnaa", sum := "27366a84de416a3c483c6a911463ead9a4d2476b92abc2c88fc6aef8ef0d2e3f", func := "loop.example/dominotilings/laws.FnLayOne", spec := "fnLayOne", recurses := true, apart := false, narrowed := true }
def FnLayOneUptoSaid : Prop := fnLayOneUptoRow.holds Try.pinned (OpenSpec.upto fnLayOneSpec)

/-- 'laws.FnFaultsOf', WHERE WHAT IT READS IS OF BULK AT MOST 1048576: true; the input reads as it did. -/
def fnFaultsOfUptoRow : OpenClaim := { program := "ytnmoaecihmjnnaa", sum := "27366a84de416a3c483c6a911463ead9a4d2476b92abc2c88fc6aef8ef0d2e3f", func := "loop.example/dominotilings/laws.FnFaultsOf", spec := "fnFaultsOf", recurses := true, apart := false, narrowed := true }
def FnFaultsOfUptoSaid : Prop := fnFaultsOfUptoRow.holds Try.pinned (OpenSpec.upto fnFaultsOfSpec)

/-- 'laws.FnComplete', WHERE WHAT IT READS IS OF BULK AT MOST 1048576: true; the input reads as it did. -/
def fnCompleteUptoRow : OpenClaim := { program := "ytnmoaecihmjnnaa", sum := "27366a84de416a3c483c6a911463ead9a4d2476b92abc2c88fc6aef8ef0d2e3f", func := "loop.example/dominotilings/laws.FnComplete", spec := "fnComplete", unfollowed := true, recurses := true, apart := false, narrowed := true }
def FnCompleteUptoSaid : Prop := fnCompleteUptoRow.holds Try.pinned (OpenSpec.upto fnCompleteSpec)

/-- 'laws.FnTilingsAll', WHERE WHAT IT READS IS OF BULK AT MOST 1048576: true; the input reads as it did. -/
def fnTilingsAllUptoRow : OpenClaim := { program := "ytnmoaecihmjnnaa", sum := "27366a84de416a3c483c6a911463ead9a4d2476b92abc2c88fc6aef8ef0d2e3f", func := "loop.example/dominotilings/laws.FnTilingsAll", spec := "fnTilingsAll", unfollowed := true, recurses := true, apart := false, narrowed := true }
def FnTilingsAllUptoSaid : Prop := fnTilingsAllUptoRow.holds Try.pinned (OpenSpec.upto fnTilingsAllSpec)

/-- 'laws.FnTilingOk', WHERE WHAT IT READS IS OF BULK AT MOST 1048576: true; the input reads as it did. -/
def fnTilingOkUptoRow : OpenClaim := { program := "ytnmoaecihmjnnaa", sum := "27366a84de416a3c483c6a911463ead9a4d2476b92abc2c88fc6aef8ef0d2e3f", func := "loop.example/dominotilings/laws.FnTilingOk", spec := "fnTilingOk", unfollowed := true, recurses := true, apart := false, narrowed := true }
def FnTilingOkUptoSaid : Prop := fnTilingOkUptoRow.holds Try.pinned (OpenSpec.upto fnTilingOkSpec)

/-- 'laws.FnFlatMany', WHERE WHAT IT READS IS OF BULK AT MOST 1048576: true; the input reads as it did. -/
def fnFlatManyUptoRow : OpenClaim := { program := "ytnmoaecihmjnnaa", sum := "27366a84de416a3c483c6a911463ead9a4d2476b92abc2c88fc6aef8ef0d2e3f", func := "loop.example/dominotilings/laws.FnFlatMany", spec := "fnFlatMany", unfollowed := true, recurses := true, apart := false, narrowed := true }
def FnFlatManyUptoSaid : Prop := fnFlatManyUptoRow.holds Try.pinned (OpenSpec.upto fnFlatManySpec)

end Rows
end Go.Proofs.Ytnmoaecihmjnnaa
