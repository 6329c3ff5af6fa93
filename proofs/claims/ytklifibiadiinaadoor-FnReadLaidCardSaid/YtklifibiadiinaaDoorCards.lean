/-
  DERIVED. GIVEN WITH THE SEED: THE CARDS: each row of YtklifibiadiinaaDoorRows.lean that lists a variable, with what it lists TIED to the program's text (the seventh form; the later family's looks); each row that meets fmt, with fmt's text TOLD by the authors' own Lean function (tested against real Go, not proved from fmt's source: count such statements apart). THE CARD IS WHAT COUNTS. Prove the row's statement (the work); the ties are given (YtklifibiadiinaaDoorTie.lean); close each card by the builder's one call (the guide's Derived/Test/ToyasCard.lean, 'card_holds'). Laid BY PROGRAM, IN A SANDBOX (cutbox-door.mjs). By AI agents, Wed Nov 11 2026. No macro, syntax, notation, axiom, sorry.
-/
import Derived.Test.YtklifibiadiinaaDoorRows
import GoSem.ClaimSeven
namespace Go.Proofs.YtklifibiadiinaaDoor
namespace Rows

/-- THE TIED CARD OF 'laws.FnLaidText'. -/
def fnLaidTextCard : Claim7 := { stood := { row := fnLaidTextRow, standIns := [], harness := (true, "c51923bb3458c73d9dd586adc1ebaa13c8605be931a93b03657ded78090d15e6"), looks := false }, kinds := [], alts := [], laidByText := true, laidKinds := [.data, .pinned], laidTests := true, laidLooks := .later }
def FnLaidTextCardSaid : Prop := Claim7.holds Tryd.pinned (.plain (OpenSpec.ofChange fnLaidTextSpec)) fnLaidTextCard

/-- THE TIED CARD OF 'laws.FnReadLaid'. -/
def fnReadLaidCard : Claim7 := { stood := { row := fnReadLaidRow, standIns := [], harness := (true, "c51923bb3458c73d9dd586adc1ebaa13c8605be931a93b03657ded78090d15e6"), looks := false }, kinds := [], alts := [], laidByText := true, laidKinds := [.data, .pinned], laidTests := true, laidLooks := .later }
def FnReadLaidCardSaid : Prop := Claim7.holds Tryd.pinned (.plain (OpenSpec.ofChange fnReadLaidSpec)) fnReadLaidCard

/-- THE TIED CARD OF 'laws.FnRegionText'. -/
def fnRegionTextCard : Claim7 := { stood := { row := fnRegionTextRow, standIns := [], harness := (true, "c51923bb3458c73d9dd586adc1ebaa13c8605be931a93b03657ded78090d15e6"), looks := false }, kinds := [], alts := [], laidByText := true, laidKinds := [.data, .pinned], laidTests := true, laidLooks := .later }
def FnRegionTextCardSaid : Prop := Claim7.holds Tryd.pinned (.plain (OpenSpec.ofChange fnRegionTextSpec)) fnRegionTextCard

/-- THE TIED CARD OF 'laws.FnReadRegion'. -/
def fnReadRegionCard : Claim7 := { stood := { row := fnReadRegionRow, standIns := [], harness := (true, "c51923bb3458c73d9dd586adc1ebaa13c8605be931a93b03657ded78090d15e6"), looks := false }, kinds := [], alts := [], laidByText := true, laidKinds := [.data, .pinned], laidTests := true, laidLooks := .later }
def FnReadRegionCardSaid : Prop := Claim7.holds Tryd.pinned (.plain (OpenSpec.ofChange fnReadRegionSpec)) fnReadRegionCard

/-- THE SECOND FORM's CARD OF 'laws.FnLaidText'. -/
def fnLaidTextUptoCard : Claim7 := { stood := { row := fnLaidTextUptoRow, standIns := [], harness := (true, "c51923bb3458c73d9dd586adc1ebaa13c8605be931a93b03657ded78090d15e6"), looks := false }, kinds := [], alts := [], laidByText := true, laidKinds := [.data, .pinned], laidTests := true, laidLooks := .later }
def FnLaidTextUptoCardSaid : Prop := Claim7.holds Tryd.pinned (.plain (OpenSpec.upto fnLaidTextSpec)) fnLaidTextUptoCard

/-- THE SECOND FORM's CARD OF 'laws.FnReadLaid'. -/
def fnReadLaidUptoCard : Claim7 := { stood := { row := fnReadLaidUptoRow, standIns := [], harness := (true, "c51923bb3458c73d9dd586adc1ebaa13c8605be931a93b03657ded78090d15e6"), looks := false }, kinds := [], alts := [], laidByText := true, laidKinds := [.data, .pinned], laidTests := true, laidLooks := .later }
def FnReadLaidUptoCardSaid : Prop := Claim7.holds Tryd.pinned (.plain (OpenSpec.upto fnReadLaidSpec)) fnReadLaidUptoCard

/-- THE SECOND FORM's CARD OF 'laws.FnRegionText'. -/
def fnRegionTextUptoCard : Claim7 := { stood := { row := fnRegionTextUptoRow, standIns := [], harness := (true, "c51923bb3458c73d9dd586adc1ebaa13c8605be931a93b03657ded78090d15e6"), looks := false }, kinds := [], alts := [], laidByText := true, laidKinds := [.data, .pinned], laidTests := true, laidLooks := .later }
def FnRegionTextUptoCardSaid : Prop := Claim7.holds Tryd.pinned (.plain (OpenSpec.upto fnRegionTextSpec)) fnRegionTextUptoCard

/-- THE SECOND FORM's CARD OF 'laws.FnReadRegion'. -/
def fnReadRegionUptoCard : Claim7 := { stood := { row := fnReadRegionUptoRow, standIns := [], harness := (true, "c51923bb3458c73d9dd586adc1ebaa13c8605be931a93b03657ded78090d15e6"), looks := false }, kinds := [], alts := [], laidByText := true, laidKinds := [.data, .pinned], laidTests := true, laidLooks := .later }
def FnReadRegionUptoCardSaid : Prop := Claim7.holds Tryd.pinned (.plain (OpenSpec.upto fnReadRegionSpec)) fnReadRegionUptoCard
end Rows
end Go.Proofs.YtklifibiadiinaaDoor
