/-
  DERIVED. GIVEN WITH THE SEED: THE CARDS: each row of YtklkaaaegnojkaaDoorRows.lean that lists a variable, with what it lists TIED to the program's text (the seventh form; the later family's looks); each row that meets fmt, with fmt's text TOLD by the authors' own Lean function (tested against real Go, not proved from fmt's source: count such statements apart). THE CARD IS WHAT COUNTS. Prove the row's statement (the work); the ties are given (YtklkaaaegnojkaaDoorTie.lean); close each card by the builder's one call (the guide's Derived/Test/ToyasCard.lean, 'card_holds'). Laid BY PROGRAM, IN A SANDBOX (cutbox-door.mjs). By AI agents, Wed Nov 11 2026. No macro, syntax, notation, axiom, sorry.
-/
import Derived.Test.YtklkaaaegnojkaaDoorRows
import GoSem.ClaimSeven
namespace Go.Proofs.YtklkaaaegnojkaaDoor
namespace Rows

/-- THE TIED CARD OF 'laws.FnExactPlain'. -/
def fnExactPlainCard : Claim7 := { stood := { row := fnExactPlainRow, standIns := [], harness := (true, "3ad720244ace15f53c10a8a19ded12b5ca715eb193790bde6ca70eb82bbcef3c"), looks := false }, kinds := [], alts := [], laidByText := true, laidKinds := [.data, .pinned], laidTests := true, laidLooks := .later }
def FnExactPlainCardSaid : Prop := Claim7.holds Tryd.pinned (.plain (OpenSpec.ofChange fnExactPlainSpec)) fnExactPlainCard

/-- THE TIED CARD OF 'laws.FnExactRunesOf'. -/
def fnExactRunesOfCard : Claim7 := { stood := { row := fnExactRunesOfRow, standIns := [], harness := (true, "3ad720244ace15f53c10a8a19ded12b5ca715eb193790bde6ca70eb82bbcef3c"), looks := false }, kinds := [], alts := [], laidByText := true, laidKinds := [.data, .pinned], laidTests := true, laidLooks := .later }
def FnExactRunesOfCardSaid : Prop := Claim7.holds Tryd.pinned (.plain (OpenSpec.ofChange fnExactRunesOfSpec)) fnExactRunesOfCard

/-- THE TIED CARD OF 'laws.FnExactWidth'. -/
def fnExactWidthCard : Claim7 := { stood := { row := fnExactWidthRow, standIns := [], harness := (true, "3ad720244ace15f53c10a8a19ded12b5ca715eb193790bde6ca70eb82bbcef3c"), looks := false }, kinds := [], alts := [], laidByText := true, laidKinds := [.data, .pinned], laidTests := true, laidLooks := .later }
def FnExactWidthCardSaid : Prop := Claim7.holds Tryd.pinned (.plain (OpenSpec.ofChange fnExactWidthSpec)) fnExactWidthCard

/-- THE TIED CARD OF 'laws.FnExactShown'. -/
def fnExactShownCard : Claim7 := { stood := { row := fnExactShownRow, standIns := [], harness := (true, "3ad720244ace15f53c10a8a19ded12b5ca715eb193790bde6ca70eb82bbcef3c"), looks := false }, kinds := [], alts := [], laidByText := true, laidKinds := [.data, .pinned], laidTests := true, laidLooks := .later }
def FnExactShownCardSaid : Prop := Claim7.holds Tryd.pinned (.plain (OpenSpec.ofChange fnExactShownSpec)) fnExactShownCard

/-- THE TIED CARD OF 'laws.FnFirstRunes'. -/
def fnFirstRunesCard : Claim7 := { stood := { row := fnFirstRunesRow, standIns := [], harness := (true, "3ad720244ace15f53c10a8a19ded12b5ca715eb193790bde6ca70eb82bbcef3c"), looks := false }, kinds := [], alts := [], laidByText := true, laidKinds := [.data, .pinned], laidTests := true, laidLooks := .later }
def FnFirstRunesCardSaid : Prop := Claim7.holds Tryd.pinned (.plain (OpenSpec.ofChange fnFirstRunesSpec)) fnFirstRunesCard

/-- THE TIED CARD OF 'laws.FnExactFirstRunes'. -/
def fnExactFirstRunesCard : Claim7 := { stood := { row := fnExactFirstRunesRow, standIns := [], harness := (true, "3ad720244ace15f53c10a8a19ded12b5ca715eb193790bde6ca70eb82bbcef3c"), looks := false }, kinds := [], alts := [], laidByText := true, laidKinds := [.data, .pinned], laidTests := true, laidLooks := .later }
def FnExactFirstRunesCardSaid : Prop := Claim7.holds Tryd.pinned (.plain (OpenSpec.ofChange fnExactFirstRunesSpec)) fnExactFirstRunesCard

/-- THE TIED CARD OF 'laws.FnExactUnshown'. -/
def fnExactUnshownCard : Claim7 := { stood := { row := fnExactUnshownRow, standIns := [], harness := (true, "3ad720244ace15f53c10a8a19ded12b5ca715eb193790bde6ca70eb82bbcef3c"), looks := false }, kinds := [], alts := [], laidByText := true, laidKinds := [.data, .pinned], laidTests := true, laidLooks := .later }
def FnExactUnshownCardSaid : Prop := Claim7.holds Tryd.pinned (.plain (OpenSpec.ofChange fnExactUnshownSpec)) fnExactUnshownCard

/-- THE TIED CARD OF 'laws.FnTexts'. -/
def fnTextsCard : Claim7 := { stood := { row := fnTextsRow, standIns := [], harness := (true, "3ad720244ace15f53c10a8a19ded12b5ca715eb193790bde6ca70eb82bbcef3c"), looks := false }, kinds := [], alts := [], laidByText := true, laidKinds := [.data, .pinned], laidTests := true, laidLooks := .later }
def FnTextsCardSaid : Prop := Claim7.holds Tryd.pinned (.plain (OpenSpec.ofChange fnTextsSpec)) fnTextsCard

/-- THE SECOND FORM's CARD OF 'laws.FnExactPlain'. -/
def fnExactPlainUptoCard : Claim7 := { stood := { row := fnExactPlainUptoRow, standIns := [], harness := (true, "3ad720244ace15f53c10a8a19ded12b5ca715eb193790bde6ca70eb82bbcef3c"), looks := false }, kinds := [], alts := [], laidByText := true, laidKinds := [.data, .pinned], laidTests := true, laidLooks := .later }
def FnExactPlainUptoCardSaid : Prop := Claim7.holds Tryd.pinned (.plain (OpenSpec.upto fnExactPlainSpec)) fnExactPlainUptoCard

/-- THE SECOND FORM's CARD OF 'laws.FnExactRunesOf'. -/
def fnExactRunesOfUptoCard : Claim7 := { stood := { row := fnExactRunesOfUptoRow, standIns := [], harness := (true, "3ad720244ace15f53c10a8a19ded12b5ca715eb193790bde6ca70eb82bbcef3c"), looks := false }, kinds := [], alts := [], laidByText := true, laidKinds := [.data, .pinned], laidTests := true, laidLooks := .later }
def FnExactRunesOfUptoCardSaid : Prop := Claim7.holds Tryd.pinned (.plain (OpenSpec.upto fnExactRunesOfSpec)) fnExactRunesOfUptoCard

/-- THE SECOND FORM's CARD OF 'laws.FnExactWidth'. -/
def fnExactWidthUptoCard : Claim7 := { stood := { row := fnExactWidthUptoRow, standIns := [], harness := (true, "3ad720244ace15f53c10a8a19ded12b5ca715eb193790bde6ca70eb82bbcef3c"), looks := false }, kinds := [], alts := [], laidByText := true, laidKinds := [.data, .pinned], laidTests := true, laidLooks := .later }
def FnExactWidthUptoCardSaid : Prop := Claim7.holds Tryd.pinned (.plain (OpenSpec.upto fnExactWidthSpec)) fnExactWidthUptoCard

/-- THE SECOND FORM's CARD OF 'laws.FnExactShown'. -/
def fnExactShownUptoCard : Claim7 := { stood := { row := fnExactShownUptoRow, standIns := [], harness := (true, "3ad720244ace15f53c10a8a19ded12b5ca715eb193790bde6ca70eb82bbcef3c"), looks := false }, kinds := [], alts := [], laidByText := true, laidKinds := [.data, .pinned], laidTests := true, laidLooks := .later }
def FnExactShownUptoCardSaid : Prop := Claim7.holds Tryd.pinned (.plain (OpenSpec.upto fnExactShownSpec)) fnExactShownUptoCard

/-- THE SECOND FORM's CARD OF 'laws.FnFirstRunes'. -/
def fnFirstRunesUptoCard : Claim7 := { stood := { row := fnFirstRunesUptoRow, standIns := [], harness := (true, "3ad720244ace15f53c10a8a19ded12b5ca715eb193790bde6ca70eb82bbcef3c"), looks := false }, kinds := [], alts := [], laidByText := true, laidKinds := [.data, .pinned], laidTests := true, laidLooks := .later }
def FnFirstRunesUptoCardSaid : Prop := Claim7.holds Tryd.pinned (.plain (OpenSpec.upto fnFirstRunesSpec)) fnFirstRunesUptoCard

/-- THE SECOND FORM's CARD OF 'laws.FnExactFirstRunes'. -/
def fnExactFirstRunesUptoCard : Claim7 := { stood := { row := fnExactFirstRunesUptoRow, standIns := [], harness := (true, "3ad720244ace15f53c10a8a19ded12b5ca715eb193790bde6ca70eb82bbcef3c"), looks := false }, kinds := [], alts := [], laidByText := true, laidKinds := [.data, .pinned], laidTests := true, laidLooks := .later }
def FnExactFirstRunesUptoCardSaid : Prop := Claim7.holds Tryd.pinned (.plain (OpenSpec.upto fnExactFirstRunesSpec)) fnExactFirstRunesUptoCard

/-- THE SECOND FORM's CARD OF 'laws.FnExactUnshown'. -/
def fnExactUnshownUptoCard : Claim7 := { stood := { row := fnExactUnshownUptoRow, standIns := [], harness := (true, "3ad720244ace15f53c10a8a19ded12b5ca715eb193790bde6ca70eb82bbcef3c"), looks := false }, kinds := [], alts := [], laidByText := true, laidKinds := [.data, .pinned], laidTests := true, laidLooks := .later }
def FnExactUnshownUptoCardSaid : Prop := Claim7.holds Tryd.pinned (.plain (OpenSpec.upto fnExactUnshownSpec)) fnExactUnshownUptoCard

/-- THE SECOND FORM's CARD OF 'laws.FnTexts'. -/
def fnTextsUptoCard : Claim7 := { stood := { row := fnTextsUptoRow, standIns := [], harness := (true, "3ad720244ace15f53c10a8a19ded12b5ca715eb193790bde6ca70eb82bbcef3c"), looks := false }, kinds := [], alts := [], laidByText := true, laidKinds := [.data, .pinned], laidTests := true, laidLooks := .later }
def FnTextsUptoCardSaid : Prop := Claim7.holds Tryd.pinned (.plain (OpenSpec.upto fnTextsSpec)) fnTextsUptoCard
end Rows
end Go.Proofs.YtklkaaaegnojkaaDoor
