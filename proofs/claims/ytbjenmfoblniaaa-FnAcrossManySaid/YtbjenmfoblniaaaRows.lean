/-
  No cell of these rows narrows 'for every input' (looked for: loops, veiled, ifaces, maps, wideKeys, modest, calm, conditions, laid).
  DERIVED. THE GIVEN ROWS OF THIS SEAT. 12 by the template 'for every input the law returns true; each argument reads behind the call as it read before'; 0 by the template 'total and deterministic' (their statements: YtbjenmfoblniaaaTotals.lean).
  GIVEN WITH THE SEED: the statements are not yours to turn. If you find one false, say at which input.
  Laid BY PROGRAM, IN A SANDBOX (cutbox-rows.mjs): the forced cells as the released guide's own fill.sh prints them over the translation 866d6ee00ce3cfb1… (all of the seat's roots in one cut). By AI agents, Wed Nov 11 2026. No macro, syntax, notation, axiom, sorry.
-/
import Derived.Test.YtbjenmfoblniaaaChecked
import GoSem.Claim
import GoSem.ClaimJoined
import GoSem.ClaimMapViews
import Derived.JoinedTies
import Derived.KernelRfl
namespace Go.Proofs.Ytbjenmfoblniaaa
/- THE CELL 'sum', in the pinned program and in every row, IS THE sha256 OF THE DUMP (.gsa) THAT YtbjenmfoblniaaaProg.lean LOADS. Nothing in Lean hashes anything: it is a label: what it is worth is what the hold of that sum in a sandbox is worth. -/
noncomputable def Try.pinned : Pinned := { name := "ytbjenmfoblniaaa", sum := "866d6ee00ce3cfb1bc517059e7b32bf854f17bc635cf9f7db11d59bb566a4fb2", checked := Try.checked }
namespace Rows
def none {H : Type} : Left H := { results := [], args := [] }

/-- 'laws.FnTwoRows': WHATEVER THE INPUT: true; the input reads as it did. -/
def fnTwoRowsSpec : ChangeSpec := { name := "fnTwoRows", fn := fun _ => fun
  | [d] => { results := [.lit (.bool true)], args := [d] }
  | _ => none }
def fnTwoRowsRow : OpenClaim := { program := "ytbjenmfoblniaaa", sum := "866d6ee00ce3cfb1bc517059e7b32bf854f17bc635cf9f7db11d59bb566a4fb2", func := "loop.example/dominotilings/laws.FnTwoRows", spec := "fnTwoRows", unfollowed := true, recurses := true, apart := false }
def FnTwoRowsSaid : Prop := fnTwoRowsRow.holds Try.pinned (OpenSpec.ofChange fnTwoRowsSpec)

/-- ITS FALSE NEIGHBOUR: 'it returns false'. Refute it at one input. -/
def fnTwoRowsWrong : ChangeSpec := { name := "fnTwoRows", fn := fun _ => fun
  | [d] => { results := [.lit (.bool false)], args := [d] }
  | _ => none }
def FnTwoRowsWrongFalsely : Prop := fnTwoRowsRow.holds Try.pinned (OpenSpec.ofChange fnTwoRowsWrong)

/-- 'laws.FnThreeRows': WHATEVER THE INPUT: true; the input reads as it did. -/
def fnThreeRowsSpec : ChangeSpec := { name := "fnThreeRows", fn := fun _ => fun
  | [d] => { results := [.lit (.bool true)], args := [d] }
  | _ => none }
def fnThreeRowsRow : OpenClaim := { program := "ytbjenmfoblniaaa", sum := "866d6ee00ce3cfb1bc517059e7b32bf854f17bc635cf9f7db11d59bb566a4fb2", func := "loop.example/dominotilings/laws.FnThreeRows", spec := "fnThreeRows", unfollowed := true, recurses := true, apart := false }
def FnThreeRowsSaid : Prop := fnThreeRowsRow.holds Try.pinned (OpenSpec.ofChange fnThreeRowsSpec)

/-- ITS FALSE NEIGHBOUR: 'it returns false'. Refute it at one input. -/
def fnThreeRowsWrong : ChangeSpec := { name := "fnThreeRows", fn := fun _ => fun
  | [d] => { results := [.lit (.bool false)], args := [d] }
  | _ => none }
def FnThreeRowsWrongFalsely : Prop := fnThreeRowsRow.holds Try.pinned (OpenSpec.ofChange fnThreeRowsWrong)

/-- 'laws.FnTilingsMany': WHATEVER THE INPUT: true; the input reads as it did. -/
def fnTilingsManySpec : ChangeSpec := { name := "fnTilingsMany", fn := fun _ => fun
  | [d] => { results := [.lit (.bool true)], args := [d] }
  | _ => none }
def fnTilingsManyRow : OpenClaim := { program := "ytbjenmfoblniaaa", sum := "866d6ee00ce3cfb1bc517059e7b32bf854f17bc635cf9f7db11d59bb566a4fb2", func := "loop.example/dominotilings/laws.FnTilingsMany", spec := "fnTilingsMany", unfollowed := true, recurses := true, apart := false }
def FnTilingsManySaid : Prop := fnTilingsManyRow.holds Try.pinned (OpenSpec.ofChange fnTilingsManySpec)

/-- ITS FALSE NEIGHBOUR: 'it returns false'. Refute it at one input. -/
def fnTilingsManyWrong : ChangeSpec := { name := "fnTilingsMany", fn := fun _ => fun
  | [d] => { results := [.lit (.bool false)], args := [d] }
  | _ => none }
def FnTilingsManyWrongFalsely : Prop := fnTilingsManyRow.holds Try.pinned (OpenSpec.ofChange fnTilingsManyWrong)

/-- 'laws.FnTilingsWith': WHATEVER THE INPUT: true; the input reads as it did. -/
def fnTilingsWithSpec : ChangeSpec := { name := "fnTilingsWith", fn := fun _ => fun
  | [d] => { results := [.lit (.bool true)], args := [d] }
  | _ => none }
def fnTilingsWithRow : OpenClaim := { program := "ytbjenmfoblniaaa", sum := "866d6ee00ce3cfb1bc517059e7b32bf854f17bc635cf9f7db11d59bb566a4fb2", func := "loop.example/dominotilings/laws.FnTilingsWith", spec := "fnTilingsWith", unfollowed := true, recurses := true, apart := false }
def FnTilingsWithSaid : Prop := fnTilingsWithRow.holds Try.pinned (OpenSpec.ofChange fnTilingsWithSpec)

/-- ITS FALSE NEIGHBOUR: 'it returns false'. Refute it at one input. -/
def fnTilingsWithWrong : ChangeSpec := { name := "fnTilingsWith", fn := fun _ => fun
  | [d] => { results := [.lit (.bool false)], args := [d] }
  | _ => none }
def FnTilingsWithWrongFalsely : Prop := fnTilingsWithRow.holds Try.pinned (OpenSpec.ofChange fnTilingsWithWrong)

/-- 'laws.FnForcedOf': WHATEVER THE INPUT: true; the input reads as it did. -/
def fnForcedOfSpec : ChangeSpec := { name := "fnForcedOf", fn := fun _ => fun
  | [d] => { results := [.lit (.bool true)], args := [d] }
  | _ => none }
def fnForcedOfRow : OpenClaim := { program := "ytbjenmfoblniaaa", sum := "866d6ee00ce3cfb1bc517059e7b32bf854f17bc635cf9f7db11d59bb566a4fb2", func := "loop.example/dominotilings/laws.FnForcedOf", spec := "fnForcedOf", unfollowed := true, recurses := true, apart := false }
def FnForcedOfSaid : Prop := fnForcedOfRow.holds Try.pinned (OpenSpec.ofChange fnForcedOfSpec)

/-- ITS FALSE NEIGHBOUR: 'it returns false'. Refute it at one input. -/
def fnForcedOfWrong : ChangeSpec := { name := "fnForcedOf", fn := fun _ => fun
  | [d] => { results := [.lit (.bool false)], args := [d] }
  | _ => none }
def FnForcedOfWrongFalsely : Prop := fnForcedOfRow.holds Try.pinned (OpenSpec.ofChange fnForcedOfWrong)

/-- 'laws.FnPartRegion': WHATEVER THE INPUT: true; the input reads as it did. -/
def fnPartRegionSpec : ChangeSpec := { name := "fnPartRegion", fn := fun _ => fun
  | [d] => { results := [.lit (.bool true)], args := [d] }
  | _ => none }
def fnPartRegionRow : OpenClaim := { program := "ytbjenmfoblniaaa", sum := "866d6ee00ce3cfb1bc517059e7b32bf854f17bc635cf9f7db11d59bb566a4fb2", func := "loop.example/dominotilings/laws.FnPartRegion", spec := "fnPartRegion", apart := false }
def FnPartRegionSaid : Prop := fnPartRegionRow.holds Try.pinned (OpenSpec.ofChange fnPartRegionSpec)

/-- ITS FALSE NEIGHBOUR: 'it returns false'. Refute it at one input. -/
def fnPartRegionWrong : ChangeSpec := { name := "fnPartRegion", fn := fun _ => fun
  | [d] => { results := [.lit (.bool false)], args := [d] }
  | _ => none }
def FnPartRegionWrongFalsely : Prop := fnPartRegionRow.holds Try.pinned (OpenSpec.ofChange fnPartRegionWrong)

/-- 'laws.FnPartsProduct': WHATEVER THE INPUT: true; the input reads as it did. -/
def fnPartsProductSpec : ChangeSpec := { name := "fnPartsProduct", fn := fun _ => fun
  | [d] => { results := [.lit (.bool true)], args := [d] }
  | _ => none }
def fnPartsProductRow : OpenClaim := { program := "ytbjenmfoblniaaa", sum := "866d6ee00ce3cfb1bc517059e7b32bf854f17bc635cf9f7db11d59bb566a4fb2", func := "loop.example/dominotilings/laws.FnPartsProduct", spec := "fnPartsProduct", unfollowed := true, recurses := true, apart := false }
def FnPartsProductSaid : Prop := fnPartsProductRow.holds Try.pinned (OpenSpec.ofChange fnPartsProductSpec)

/-- ITS FALSE NEIGHBOUR: 'it returns false'. Refute it at one input. -/
def fnPartsProductWrong : ChangeSpec := { name := "fnPartsProduct", fn := fun _ => fun
  | [d] => { results := [.lit (.bool false)], args := [d] }
  | _ => none }
def FnPartsProductWrongFalsely : Prop := fnPartsProductRow.holds Try.pinned (OpenSpec.ofChange fnPartsProductWrong)

/-- 'laws.FnAcrossSum': WHATEVER THE INPUT: true; the input reads as it did. -/
def fnAcrossSumSpec : ChangeSpec := { name := "fnAcrossSum", fn := fun _ => fun
  | [d] => { results := [.lit (.bool true)], args := [d] }
  | _ => none }
def fnAcrossSumRow : OpenClaim := { program := "ytbjenmfoblniaaa", sum := "866d6ee00ce3cfb1bc517059e7b32bf854f17bc635cf9f7db11d59bb566a4fb2", func := "loop.example/dominotilings/laws.FnAcrossSum", spec := "fnAcrossSum", unfollowed := true, recurses := true, apart := false }
def FnAcrossSumSaid : Prop := fnAcrossSumRow.holds Try.pinned (OpenSpec.ofChange fnAcrossSumSpec)

/-- ITS FALSE NEIGHBOUR: 'it returns false'. Refute it at one input. -/
def fnAcrossSumWrong : ChangeSpec := { name := "fnAcrossSum", fn := fun _ => fun
  | [d] => { results := [.lit (.bool false)], args := [d] }
  | _ => none }
def FnAcrossSumWrongFalsely : Prop := fnAcrossSumRow.holds Try.pinned (OpenSpec.ofChange fnAcrossSumWrong)

/-- 'laws.FnAcrossMany': WHATEVER THE INPUT: true; the input reads as it did. -/
def fnAcrossManySpec : ChangeSpec := { name := "fnAcrossMany", fn := fun _ => fun
  | [d] => { results := [.lit (.bool true)], args := [d] }
  | _ => none }
def fnAcrossManyRow : OpenClaim := { program := "ytbjenmfoblniaaa", sum := "866d6ee00ce3cfb1bc517059e7b32bf854f17bc635cf9f7db11d59bb566a4fb2", func := "loop.example/dominotilings/laws.FnAcrossMany", spec := "fnAcrossMany", unfollowed := true, recurses := true, apart := false }
def FnAcrossManySaid : Prop := fnAcrossManyRow.holds Try.pinned (OpenSpec.ofChange fnAcrossManySpec)

/-- ITS FALSE NEIGHBOUR: 'it returns false'. Refute it at one input. -/
def fnAcrossManyWrong : ChangeSpec := { name := "fnAcrossMany", fn := fun _ => fun
  | [d] => { results := [.lit (.bool false)], args := [d] }
  | _ => none }
def FnAcrossManyWrongFalsely : Prop := fnAcrossManyRow.holds Try.pinned (OpenSpec.ofChange fnAcrossManyWrong)

/-- 'laws.FnRankOf': WHATEVER THE INPUT: true; the input reads as it did. -/
def fnRankOfSpec : ChangeSpec := { name := "fnRankOf", fn := fun _ => fun
  | [d] => { results := [.lit (.bool true)], args := [d] }
  | _ => none }
def fnRankOfRow : OpenClaim := { program := "ytbjenmfoblniaaa", sum := "866d6ee00ce3cfb1bc517059e7b32bf854f17bc635cf9f7db11d59bb566a4fb2", func := "loop.example/dominotilings/laws.FnRankOf", spec := "fnRankOf", unfollowed := true, recurses := true, apart := false }
def FnRankOfSaid : Prop := fnRankOfRow.holds Try.pinned (OpenSpec.ofChange fnRankOfSpec)

/-- ITS FALSE NEIGHBOUR: 'it returns false'. Refute it at one input. -/
def fnRankOfWrong : ChangeSpec := { name := "fnRankOf", fn := fun _ => fun
  | [d] => { results := [.lit (.bool false)], args := [d] }
  | _ => none }
def FnRankOfWrongFalsely : Prop := fnRankOfRow.holds Try.pinned (OpenSpec.ofChange fnRankOfWrong)

/-- 'laws.FnTilingOf': WHATEVER THE INPUT: true; the input reads as it did. -/
def fnTilingOfSpec : ChangeSpec := { name := "fnTilingOf", fn := fun _ => fun
  | [d] => { results := [.lit (.bool true)], args := [d] }
  | _ => none }
def fnTilingOfRow : OpenClaim := { program := "ytbjenmfoblniaaa", sum := "866d6ee00ce3cfb1bc517059e7b32bf854f17bc635cf9f7db11d59bb566a4fb2", func := "loop.example/dominotilings/laws.FnTilingOf", spec := "fnTilingOf", unfollowed := true, recurses := true, apart := false }
def FnTilingOfSaid : Prop := fnTilingOfRow.holds Try.pinned (OpenSpec.ofChange fnTilingOfSpec)

/-- ITS FALSE NEIGHBOUR: 'it returns false'. Refute it at one input. -/
def fnTilingOfWrong : ChangeSpec := { name := "fnTilingOf", fn := fun _ => fun
  | [d] => { results := [.lit (.bool false)], args := [d] }
  | _ => none }
def FnTilingOfWrongFalsely : Prop := fnTilingOfRow.holds Try.pinned (OpenSpec.ofChange fnTilingOfWrong)

/-- 'laws.FnHolesMany': WHATEVER THE INPUT: true; the input reads as it did. -/
def fnHolesManySpec : ChangeSpec := { name := "fnHolesMany", fn := fun _ => fun
  | [d] => { results := [.lit (.bool true)], args := [d] }
  | _ => none }
def fnHolesManyRow : OpenClaim := { program := "ytbjenmfoblniaaa", sum := "866d6ee00ce3cfb1bc517059e7b32bf854f17bc635cf9f7db11d59bb566a4fb2", func := "loop.example/dominotilings/laws.FnHolesMany", spec := "fnHolesMany", unfollowed := true, recurses := true, apart := false }
def FnHolesManySaid : Prop := fnHolesManyRow.holds Try.pinned (OpenSpec.ofChange fnHolesManySpec)

/-- ITS FALSE NEIGHBOUR: 'it returns false'. Refute it at one input. -/
def fnHolesManyWrong : ChangeSpec := { name := "fnHolesMany", fn := fun _ => fun
  | [d] => { results := [.lit (.bool false)], args := [d] }
  | _ => none }
def FnHolesManyWrongFalsely : Prop := fnHolesManyRow.holds Try.pinned (OpenSpec.ofChange fnHolesManyWrong)

/- THE SECOND FORM. 'bulk': how many values and letters a reading holds, each counted each time it is reached (what is shared counts as often as it is met; a slice's spare places count too). A statement '..UptoSaid' is the law's where the arguments, and the package variables that the reading takes, are together of bulk at most 1048576: NARROWER than '..Said'. Prove '..Said' where nothing that the law and all that it calls make is longer than what came in: it says more and counts as full. Else prove '..UptoSaid'. A law counts once. -/
mutual
def uptoBulk {H : Type} : DataW H → Nat
  | .lit (.string bytes) => bytes.length + 1
  | .lit _ => 1
  | .nil => 1
  | .ptr d => uptoBulk d + 1
  | .slice elems spare => uptoBulkAll elems + uptoBulkAll spare + 1
  | .agg parts => uptoBulkAll parts + 1
  | .iface _ d => uptoBulk d + 1
  | .map entries => uptoBulkEntries entries + 1
  | .held _ => 1
def uptoBulkAll {H : Type} : List (DataW H) → Nat
  | [] => 0
  | d :: r => uptoBulk d + uptoBulkAll r
def uptoBulkEntries {H : Type} : List (Lit × DataW H) → Nat
  | [] => 0
  | x :: r => uptoBulkEntry x + uptoBulkEntries r
def uptoBulkEntry {H : Type} : Lit × DataW H → Nat
  | (.string bytes, d) => bytes.length + uptoBulk d + 1
  | (_, d) => uptoBulk d + 1
 end
def uptoSmall : (H : Type) → List (DataW H) → Bool := fun _ ds => decide (uptoBulkAll ds ≤ 1048576)
def OpenSpec.upto (s : _root_.Go.ChangeSpec) : _root_.Go.OpenSpec := { _root_.Go.OpenSpec.ofChange s with cond := some uptoSmall }

/-- 'laws.FnTwoRows', WHERE WHAT IT READS IS OF BULK AT MOST 1048576: true; the input reads as it did. -/
def fnTwoRowsUptoRow : OpenClaim := { program := "ytbjenmfoblniaaa", sum := "866d6ee00ce3cfb1bc517059e7b32bf854f17bc635cf9f7db11d59bb566a4fb2", func := "loop.example/dominotilings/laws.FnTwoRows", spec := "fnTwoRows", unfollowed := true, recurses := true, apart := false, narrowed := true }
def FnTwoRowsUptoSaid : Prop := fnTwoRowsUptoRow.holds Try.pinned (OpenSpec.upto fnTwoRowsSpec)

/-- 'laws.FnThreeRows', WHERE WHAT IT READS IS OF BULK AT MOST 1048576: true; the input reads as it did. -/
def fnThreeRowsUptoRow : OpenClaim := { program := "ytbjenmfoblniaaa", sum := "866d6ee00ce3cfb1bc517059e7b32bf854f17bc635cf9f7db11d59bb566a4fb2", func := "loop.example/dominotilings/laws.FnThreeRows", spec := "fnThreeRows", unfollowed := true, recurses := true, apart := false, narrowed := true }
def FnThreeRowsUptoSaid : Prop := fnThreeRowsUptoRow.holds Try.pinned (OpenSpec.upto fnThreeRowsSpec)

/-- 'laws.FnTilingsMany', WHERE WHAT IT READS IS OF BULK AT MOST 1048576: true; the input reads as it did. -/
def fnTilingsManyUptoRow : OpenClaim := { program := "ytbjenmfoblniaaa", sum := "866d6ee00ce3cfb1bc517059e7b32bf854f17bc635cf9f7db11d59bb566a4fb2", func := "loop.example/dominotilings/laws.FnTilingsMany", spec := "fnTilingsMany", unfollowed := true, recurses := true, apart := false, narrowed := true }
def FnTilingsManyUptoSaid : Prop := fnTilingsManyUptoRow.holds Try.pinned (OpenSpec.upto fnTilingsManySpec)

/-- 'laws.FnTilingsWith', WHERE WHAT IT READS IS OF BULK AT MOST 1048576: true; the input reads as it did. -/
def fnTilingsWithUptoRow : OpenClaim := { program := "ytbjenmfoblniaaa", sum := "866d6ee00ce3cfb1bc517059e7b32bf854f17bc635cf9f7db11d59bb566a4fb2", func := "loop.example/dominotilings/laws.FnTilingsWith", spec := "fnTilingsWith", unfollowed := true, recurses := true, apart := false, narrowed := true }
def FnTilingsWithUptoSaid : Prop := fnTilingsWithUptoRow.holds Try.pinned (OpenSpec.upto fnTilingsWithSpec)

/-- 'laws.FnForcedOf', WHERE WHAT IT READS IS OF BULK AT MOST 1048576: true; the input reads as it did. -/
def fnForcedOfUptoRow : OpenClaim := { program := "ytbjenmfoblniaaa", sum := "866d6ee00ce3cfb1bc517059e7b32bf854f17bc635cf9f7db11d59bb566a4fb2", func := "loop.example/dominotilings/laws.FnForcedOf", spec := "fnForcedOf", unfollowed := true, recurses := true, apart := false, narrowed := true }
def FnForcedOfUptoSaid : Prop := fnForcedOfUptoRow.holds Try.pinned (OpenSpec.upto fnForcedOfSpec)

/-- 'laws.FnPartRegion', WHERE WHAT IT READS IS OF BULK AT MOST 1048576: true; the input reads as it did. -/
def fnPartRegionUptoRow : OpenClaim := { program := "ytbjenmfoblniaaa", sum := "866d6ee00ce3cfb1bc517059e7b32bf854f17bc635cf9f7db11d59bb566a4fb2", func := "loop.example/dominotilings/laws.FnPartRegion", spec := "fnPartRegion", apart := false, narrowed := true }
def FnPartRegionUptoSaid : Prop := fnPartRegionUptoRow.holds Try.pinned (OpenSpec.upto fnPartRegionSpec)

/-- 'laws.FnPartsProduct', WHERE WHAT IT READS IS OF BULK AT MOST 1048576: true; the input reads as it did. -/
def fnPartsProductUptoRow : OpenClaim := { program := "ytbjenmfoblniaaa", sum := "866d6ee00ce3cfb1bc517059e7b32bf854f17bc635cf9f7db11d59bb566a4fb2", func := "loop.example/dominotilings/laws.FnPartsProduct", spec := "fnPartsProduct", unfollowed := true, recurses := true, apart := false, narrowed := true }
def FnPartsProductUptoSaid : Prop := fnPartsProductUptoRow.holds Try.pinned (OpenSpec.upto fnPartsProductSpec)

/-- 'laws.FnAcrossSum', WHERE WHAT IT READS IS OF BULK AT MOST 1048576: true; the input reads as it did. -/
def fnAcrossSumUptoRow : OpenClaim := { program := "ytbjenmfoblniaaa", sum := "866d6ee00ce3cfb1bc517059e7b32bf854f17bc635cf9f7db11d59bb566a4fb2", func := "loop.example/dominotilings/laws.FnAcrossSum", spec := "fnAcrossSum", unfollowed := true, recurses := true, apart := false, narrowed := true }
def FnAcrossSumUptoSaid : Prop := fnAcrossSumUptoRow.holds Try.pinned (OpenSpec.upto fnAcrossSumSpec)

/-- 'laws.FnAcrossMany', WHERE WHAT IT READS IS OF BULK AT MOST 1048576: true; the input reads as it did. -/
def fnAcrossManyUptoRow : OpenClaim := { program := "ytbjenmfoblniaaa", sum := "866d6ee00ce3cfb1bc517059e7b32bf854f17bc635cf9f7db11d59bb566a4fb2", func := "loop.example/dominotilings/laws.FnAcrossMany", spec := "fnAcrossMany", unfollowed := true, recurses := true, apart := false, narrowed := true }
def FnAcrossManyUptoSaid : Prop := fnAcrossManyUptoRow.holds Try.pinned (OpenSpec.upto fnAcrossManySpec)

/-- 'laws.FnRankOf', WHERE WHAT IT READS IS OF BULK AT MOST 1048576: true; the input reads as it did. -/
def fnRankOfUptoRow : OpenClaim := { program := "ytbjenmfoblniaaa", sum := "866d6ee00ce3cfb1bc517059e7b32bf854f17bc635cf9f7db11d59bb566a4fb2", func := "loop.example/dominotilings/laws.FnRankOf", spec := "fnRankOf", unfollowed := true, recurses := true, apart := false, narrowed := true }
def FnRankOfUptoSaid : Prop := fnRankOfUptoRow.holds Try.pinned (OpenSpec.upto fnRankOfSpec)

/-- 'laws.FnTilingOf', WHERE WHAT IT READS IS OF BULK AT MOST 1048576: true; the input reads as it did. -/
def fnTilingOfUptoRow : OpenClaim := { program := "ytbjenmfoblniaaa", sum := "866d6ee00ce3cfb1bc517059e7b32bf854f17bc635cf9f7db11d59bb566a4fb2", func := "loop.example/dominotilings/laws.FnTilingOf", spec := "fnTilingOf", unfollowed := true, recurses := true, apart := false, narrowed := true }
def FnTilingOfUptoSaid : Prop := fnTilingOfUptoRow.holds Try.pinned (OpenSpec.upto fnTilingOfSpec)

/-- 'laws.FnHolesMany', WHERE WHAT IT READS IS OF BULK AT MOST 1048576: true; the input reads as it did. -/
def fnHolesManyUptoRow : OpenClaim := { program := "ytbjenmfoblniaaa", sum := "866d6ee00ce3cfb1bc517059e7b32bf854f17bc635cf9f7db11d59bb566a4fb2", func := "loop.example/dominotilings/laws.FnHolesMany", spec := "fnHolesMany", unfollowed := true, recurses := true, apart := false, narrowed := true }
def FnHolesManyUptoSaid : Prop := fnHolesManyUptoRow.holds Try.pinned (OpenSpec.upto fnHolesManySpec)

end Rows
end Go.Proofs.Ytbjenmfoblniaaa
