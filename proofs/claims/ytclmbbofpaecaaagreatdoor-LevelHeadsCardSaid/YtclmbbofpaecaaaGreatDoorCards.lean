/-
  DERIVED. GIVEN WITH THE SEED: THE CARDS: each row of YtclmbbofpaecaaaGreatDoorRows.lean that lists a variable, with what it lists TIED to the program's text (the seventh form; the later family's looks); each row that meets fmt, with fmt's text TOLD by the authors' own Lean function (tested against real Go, not proved from fmt's source: count such statements apart). THE CARD IS WHAT COUNTS. Prove the row's statement (the work); the ties are given (YtclmbbofpaecaaaGreatDoorTie.lean); close each card by the builder's one call (the guide's Derived/Test/ToyasCard.lean, 'card_holds'). Laid BY PROGRAM, IN A SANDBOX (cutbox-door.mjs). By AI agents, Wed Nov 11 2026. No macro, syntax, notation, axiom, sorry.
-/
import Derived.Test.YtclmbbofpaecaaaGreatDoorRows
import GoSem.ClaimSeven
namespace Go.Proofs.YtclmbbofpaecaaaGreatDoor
namespace Rows

/-- THE TIED CARD OF 'quinarialaw01.LevelBounds'. -/
def levelBoundsCard : Claim7 := { stood := { row := levelBoundsRow, standIns := [], harness := (true, "6d35de1e401f8de53127ac5c61a8cef0ec1bad88697796d15747f2a67ee9c756"), looks := true }, kinds := [], alts := [], laidByText := true, laidKinds := [.data, .data, .data, .data, .pinned], laidTests := true, laidLooks := .later }
def LevelBoundsCardSaid : Prop := Claim7.holds Tryz.pinned (.plain (OpenSpec.ofChange levelBoundsSpec)) levelBoundsCard

/-- THE TIED CARD OF 'quinarialaw01.LevelErrors'. -/
def levelErrorsCard : Claim7 := { stood := { row := levelErrorsRow, standIns := [], harness := (true, "6d35de1e401f8de53127ac5c61a8cef0ec1bad88697796d15747f2a67ee9c756"), looks := true }, kinds := [], alts := [], laidByText := true, laidKinds := [.data, .data, .data, .data, .pinned], laidTests := true, laidLooks := .later }
def LevelErrorsCardSaid : Prop := Claim7.holds Tryz.pinned (.plain (OpenSpec.ofChange levelErrorsSpec)) levelErrorsCard

/-- THE TIED CARD OF 'quinarialaw01.LevelFalls'. -/
def levelFallsCard : Claim7 := { stood := { row := levelFallsRow, standIns := [], harness := (true, "6d35de1e401f8de53127ac5c61a8cef0ec1bad88697796d15747f2a67ee9c756"), looks := true }, kinds := [], alts := [], laidByText := true, laidKinds := [.data, .data, .data, .data, .pinned], laidTests := true, laidLooks := .later }
def LevelFallsCardSaid : Prop := Claim7.holds Tryz.pinned (.plain (OpenSpec.ofChange levelFallsSpec)) levelFallsCard

/-- THE TIED CARD OF 'quinarialaw01.LevelMeets'. -/
def levelMeetsCard : Claim7 := { stood := { row := levelMeetsRow, standIns := [], harness := (true, "6d35de1e401f8de53127ac5c61a8cef0ec1bad88697796d15747f2a67ee9c756"), looks := true }, kinds := [], alts := [], laidByText := true, laidKinds := [.data, .data, .data, .data, .pinned], laidTests := true, laidLooks := .later }
def LevelMeetsCardSaid : Prop := Claim7.holds Tryz.pinned (.plain (OpenSpec.ofChange levelMeetsSpec)) levelMeetsCard

/-- THE TIED CARD OF 'quinarialaw01.LevelTakes'. -/
def levelTakesCard : Claim7 := { stood := { row := levelTakesRow, standIns := [], harness := (true, "6d35de1e401f8de53127ac5c61a8cef0ec1bad88697796d15747f2a67ee9c756"), looks := true }, kinds := [], alts := [], laidByText := true, laidKinds := [.data, .data, .data, .data, .pinned], laidTests := true, laidLooks := .later }
def LevelTakesCardSaid : Prop := Claim7.holds Tryz.pinned (.plain (OpenSpec.ofChange levelTakesSpec)) levelTakesCard

/-- THE TIED CARD OF 'quinarialaw01.LevelDrops'. -/
def levelDropsCard : Claim7 := { stood := { row := levelDropsRow, standIns := [], harness := (true, "6d35de1e401f8de53127ac5c61a8cef0ec1bad88697796d15747f2a67ee9c756"), looks := true }, kinds := [], alts := [], laidByText := true, laidKinds := [.data, .data, .data, .data, .pinned], laidTests := true, laidLooks := .later }
def LevelDropsCardSaid : Prop := Claim7.holds Tryz.pinned (.plain (OpenSpec.ofChange levelDropsSpec)) levelDropsCard

/-- THE TIED CARD OF 'quinarialaw01.LevelMore'. -/
def levelMoreCard : Claim7 := { stood := { row := levelMoreRow, standIns := [], harness := (true, "6d35de1e401f8de53127ac5c61a8cef0ec1bad88697796d15747f2a67ee9c756"), looks := true }, kinds := [], alts := [], laidByText := true, laidKinds := [.data, .data, .data, .data, .pinned], laidTests := true, laidLooks := .later }
def LevelMoreCardSaid : Prop := Claim7.holds Tryz.pinned (.plain (OpenSpec.ofChange levelMoreSpec)) levelMoreCard

/-- THE TIED CARD OF 'quinarialaw01.LevelEven'. -/
def levelEvenCard : Claim7 := { stood := { row := levelEvenRow, standIns := [], harness := (true, "6d35de1e401f8de53127ac5c61a8cef0ec1bad88697796d15747f2a67ee9c756"), looks := true }, kinds := [], alts := [], laidByText := true, laidKinds := [.data, .data, .data, .data, .pinned], laidTests := true, laidLooks := .later }
def LevelEvenCardSaid : Prop := Claim7.holds Tryz.pinned (.plain (OpenSpec.ofChange levelEvenSpec)) levelEvenCard

/-- THE TIED CARD OF 'quinarialaw01.LevelNarrow'. -/
def levelNarrowCard : Claim7 := { stood := { row := levelNarrowRow, standIns := [], harness := (true, "6d35de1e401f8de53127ac5c61a8cef0ec1bad88697796d15747f2a67ee9c756"), looks := true }, kinds := [], alts := [], laidByText := true, laidKinds := [.data, .data, .data, .data, .pinned], laidTests := true, laidLooks := .later }
def LevelNarrowCardSaid : Prop := Claim7.holds Tryz.pinned (.plain (OpenSpec.ofChange levelNarrowSpec)) levelNarrowCard

/-- THE TIED CARD OF 'quinarialaw01.LevelPrints'. -/
def levelPrintsCard : Claim7 := { stood := { row := levelPrintsRow, standIns := [], harness := (true, "6d35de1e401f8de53127ac5c61a8cef0ec1bad88697796d15747f2a67ee9c756"), looks := true }, kinds := [], alts := [], laidByText := true, laidKinds := [.data, .data, .data, .data, .pinned], laidTests := true, laidLooks := .later }
def LevelPrintsCardSaid : Prop := Claim7.holds Tryz.pinned (.plain (OpenSpec.ofChange levelPrintsSpec)) levelPrintsCard

/-- THE TIED CARD OF 'quinarialaw01.LevelReads'. -/
def levelReadsCard : Claim7 := { stood := { row := levelReadsRow, standIns := [], harness := (true, "6d35de1e401f8de53127ac5c61a8cef0ec1bad88697796d15747f2a67ee9c756"), looks := true }, kinds := [], alts := [], laidByText := true, laidKinds := [.data, .data, .data, .data, .pinned], laidTests := true, laidLooks := .later }
def LevelReadsCardSaid : Prop := Claim7.holds Tryz.pinned (.plain (OpenSpec.ofChange levelReadsSpec)) levelReadsCard

/-- THE TIED CARD OF 'quinarialaw01.LevelSpoilt'. -/
def levelSpoiltCard : Claim7 := { stood := { row := levelSpoiltRow, standIns := [], harness := (true, "6d35de1e401f8de53127ac5c61a8cef0ec1bad88697796d15747f2a67ee9c756"), looks := true }, kinds := [], alts := [], laidByText := true, laidKinds := [.data, .data, .data, .data, .pinned], laidTests := true, laidLooks := .later }
def LevelSpoiltCardSaid : Prop := Claim7.holds Tryz.pinned (.plain (OpenSpec.ofChange levelSpoiltSpec)) levelSpoiltCard

/-- THE TIED CARD OF 'quinarialaw01.LevelLowest'. -/
def levelLowestCard : Claim7 := { stood := { row := levelLowestRow, standIns := [], harness := (true, "6d35de1e401f8de53127ac5c61a8cef0ec1bad88697796d15747f2a67ee9c756"), looks := true }, kinds := [], alts := [], laidByText := true, laidKinds := [.data, .data, .data, .data, .pinned], laidTests := true, laidLooks := .later }
def LevelLowestCardSaid : Prop := Claim7.holds Tryz.pinned (.plain (OpenSpec.ofChange levelLowestSpec)) levelLowestCard

/-- THE TIED CARD OF 'quinarialaw01.LevelSurely'. -/
def levelSurelyCard : Claim7 := { stood := { row := levelSurelyRow, standIns := [], harness := (true, "6d35de1e401f8de53127ac5c61a8cef0ec1bad88697796d15747f2a67ee9c756"), looks := true }, kinds := [], alts := [], laidByText := true, laidKinds := [.data, .data, .data, .data, .pinned], laidTests := true, laidLooks := .later }
def LevelSurelyCardSaid : Prop := Claim7.holds Tryz.pinned (.plain (OpenSpec.ofChange levelSurelySpec)) levelSurelyCard

/-- THE TIED CARD OF 'quinarialaw01.LevelHeads'. -/
def levelHeadsCard : Claim7 := { stood := { row := levelHeadsRow, standIns := [], harness := (true, "6d35de1e401f8de53127ac5c61a8cef0ec1bad88697796d15747f2a67ee9c756"), looks := true }, kinds := [], alts := [], laidByText := true, laidKinds := [.data, .data, .data, .data, .pinned], laidTests := true, laidLooks := .later }
def LevelHeadsCardSaid : Prop := Claim7.holds Tryz.pinned (.plain (OpenSpec.ofChange levelHeadsSpec)) levelHeadsCard

/-- THE TIED CARD OF 'quinarialaw01.LevelTrue'. -/
def levelTrueCard : Claim7 := { stood := { row := levelTrueRow, standIns := [], harness := (true, "6d35de1e401f8de53127ac5c61a8cef0ec1bad88697796d15747f2a67ee9c756"), looks := true }, kinds := [], alts := [], laidByText := true, laidKinds := [.data, .data, .data, .data, .pinned], laidTests := true, laidLooks := .later }
def LevelTrueCardSaid : Prop := Claim7.holds Tryz.pinned (.plain (OpenSpec.ofChange levelTrueSpec)) levelTrueCard

/-- THE TIED CARD OF 'quinarialaw01.LevelRings'. -/
def levelRingsCard : Claim7 := { stood := { row := levelRingsRow, standIns := [], harness := (true, "6d35de1e401f8de53127ac5c61a8cef0ec1bad88697796d15747f2a67ee9c756"), looks := true }, kinds := [], alts := [], laidByText := true, laidKinds := [.data, .data, .data, .data, .pinned], laidTests := true, laidLooks := .later }
def LevelRingsCardSaid : Prop := Claim7.holds Tryz.pinned (.plain (OpenSpec.ofChange levelRingsSpec)) levelRingsCard

/-- THE TIED CARD OF 'quinarialaw01.LevelFits'. -/
def levelFitsCard : Claim7 := { stood := { row := levelFitsRow, standIns := [], harness := (true, "6d35de1e401f8de53127ac5c61a8cef0ec1bad88697796d15747f2a67ee9c756"), looks := true }, kinds := [], alts := [], laidByText := true, laidKinds := [.data, .data, .data, .data, .pinned], laidTests := true, laidLooks := .later }
def LevelFitsCardSaid : Prop := Claim7.holds Tryz.pinned (.plain (OpenSpec.ofChange levelFitsSpec)) levelFitsCard

/-- THE TIED CARD OF 'quinarialaw01.LevelFewest'. -/
def levelFewestCard : Claim7 := { stood := { row := levelFewestRow, standIns := [], harness := (true, "6d35de1e401f8de53127ac5c61a8cef0ec1bad88697796d15747f2a67ee9c756"), looks := true }, kinds := [], alts := [], laidByText := true, laidKinds := [.data, .data, .data, .data, .pinned], laidTests := true, laidLooks := .later }
def LevelFewestCardSaid : Prop := Claim7.holds Tryz.pinned (.plain (OpenSpec.ofChange levelFewestSpec)) levelFewestCard

/-- THE TIED CARD OF 'quinarialaw01.LevelClosed'. -/
def levelClosedCard : Claim7 := { stood := { row := levelClosedRow, standIns := [], harness := (true, "6d35de1e401f8de53127ac5c61a8cef0ec1bad88697796d15747f2a67ee9c756"), looks := true }, kinds := [], alts := [], laidByText := true, laidKinds := [.data, .data, .data, .data, .pinned], laidTests := true, laidLooks := .later }
def LevelClosedCardSaid : Prop := Claim7.holds Tryz.pinned (.plain (OpenSpec.ofChange levelClosedSpec)) levelClosedCard

/-- THE SECOND FORM's CARD OF 'quinarialaw01.LevelBounds'. -/
def levelBoundsUptoCard : Claim7 := { stood := { row := levelBoundsUptoRow, standIns := [], harness := (true, "6d35de1e401f8de53127ac5c61a8cef0ec1bad88697796d15747f2a67ee9c756"), looks := true }, kinds := [], alts := [], laidByText := true, laidKinds := [.data, .data, .data, .data, .pinned], laidTests := true, laidLooks := .later }
def LevelBoundsUptoCardSaid : Prop := Claim7.holds Tryz.pinned (.plain (OpenSpec.upto levelBoundsSpec)) levelBoundsUptoCard

/-- THE SECOND FORM's CARD OF 'quinarialaw01.LevelErrors'. -/
def levelErrorsUptoCard : Claim7 := { stood := { row := levelErrorsUptoRow, standIns := [], harness := (true, "6d35de1e401f8de53127ac5c61a8cef0ec1bad88697796d15747f2a67ee9c756"), looks := true }, kinds := [], alts := [], laidByText := true, laidKinds := [.data, .data, .data, .data, .pinned], laidTests := true, laidLooks := .later }
def LevelErrorsUptoCardSaid : Prop := Claim7.holds Tryz.pinned (.plain (OpenSpec.upto levelErrorsSpec)) levelErrorsUptoCard

/-- THE SECOND FORM's CARD OF 'quinarialaw01.LevelFalls'. -/
def levelFallsUptoCard : Claim7 := { stood := { row := levelFallsUptoRow, standIns := [], harness := (true, "6d35de1e401f8de53127ac5c61a8cef0ec1bad88697796d15747f2a67ee9c756"), looks := true }, kinds := [], alts := [], laidByText := true, laidKinds := [.data, .data, .data, .data, .pinned], laidTests := true, laidLooks := .later }
def LevelFallsUptoCardSaid : Prop := Claim7.holds Tryz.pinned (.plain (OpenSpec.upto levelFallsSpec)) levelFallsUptoCard

/-- THE SECOND FORM's CARD OF 'quinarialaw01.LevelMeets'. -/
def levelMeetsUptoCard : Claim7 := { stood := { row := levelMeetsUptoRow, standIns := [], harness := (true, "6d35de1e401f8de53127ac5c61a8cef0ec1bad88697796d15747f2a67ee9c756"), looks := true }, kinds := [], alts := [], laidByText := true, laidKinds := [.data, .data, .data, .data, .pinned], laidTests := true, laidLooks := .later }
def LevelMeetsUptoCardSaid : Prop := Claim7.holds Tryz.pinned (.plain (OpenSpec.upto levelMeetsSpec)) levelMeetsUptoCard

/-- THE SECOND FORM's CARD OF 'quinarialaw01.LevelTakes'. -/
def levelTakesUptoCard : Claim7 := { stood := { row := levelTakesUptoRow, standIns := [], harness := (true, "6d35de1e401f8de53127ac5c61a8cef0ec1bad88697796d15747f2a67ee9c756"), looks := true }, kinds := [], alts := [], laidByText := true, laidKinds := [.data, .data, .data, .data, .pinned], laidTests := true, laidLooks := .later }
def LevelTakesUptoCardSaid : Prop := Claim7.holds Tryz.pinned (.plain (OpenSpec.upto levelTakesSpec)) levelTakesUptoCard

/-- THE SECOND FORM's CARD OF 'quinarialaw01.LevelDrops'. -/
def levelDropsUptoCard : Claim7 := { stood := { row := levelDropsUptoRow, standIns := [], harness := (true, "6d35de1e401f8de53127ac5c61a8cef0ec1bad88697796d15747f2a67ee9c756"), looks := true }, kinds := [], alts := [], laidByText := true, laidKinds := [.data, .data, .data, .data, .pinned], laidTests := true, laidLooks := .later }
def LevelDropsUptoCardSaid : Prop := Claim7.holds Tryz.pinned (.plain (OpenSpec.upto levelDropsSpec)) levelDropsUptoCard

/-- THE SECOND FORM's CARD OF 'quinarialaw01.LevelMore'. -/
def levelMoreUptoCard : Claim7 := { stood := { row := levelMoreUptoRow, standIns := [], harness := (true, "6d35de1e401f8de53127ac5c61a8cef0ec1bad88697796d15747f2a67ee9c756"), looks := true }, kinds := [], alts := [], laidByText := true, laidKinds := [.data, .data, .data, .data, .pinned], laidTests := true, laidLooks := .later }
def LevelMoreUptoCardSaid : Prop := Claim7.holds Tryz.pinned (.plain (OpenSpec.upto levelMoreSpec)) levelMoreUptoCard

/-- THE SECOND FORM's CARD OF 'quinarialaw01.LevelEven'. -/
def levelEvenUptoCard : Claim7 := { stood := { row := levelEvenUptoRow, standIns := [], harness := (true, "6d35de1e401f8de53127ac5c61a8cef0ec1bad88697796d15747f2a67ee9c756"), looks := true }, kinds := [], alts := [], laidByText := true, laidKinds := [.data, .data, .data, .data, .pinned], laidTests := true, laidLooks := .later }
def LevelEvenUptoCardSaid : Prop := Claim7.holds Tryz.pinned (.plain (OpenSpec.upto levelEvenSpec)) levelEvenUptoCard

/-- THE SECOND FORM's CARD OF 'quinarialaw01.LevelNarrow'. -/
def levelNarrowUptoCard : Claim7 := { stood := { row := levelNarrowUptoRow, standIns := [], harness := (true, "6d35de1e401f8de53127ac5c61a8cef0ec1bad88697796d15747f2a67ee9c756"), looks := true }, kinds := [], alts := [], laidByText := true, laidKinds := [.data, .data, .data, .data, .pinned], laidTests := true, laidLooks := .later }
def LevelNarrowUptoCardSaid : Prop := Claim7.holds Tryz.pinned (.plain (OpenSpec.upto levelNarrowSpec)) levelNarrowUptoCard

/-- THE SECOND FORM's CARD OF 'quinarialaw01.LevelPrints'. -/
def levelPrintsUptoCard : Claim7 := { stood := { row := levelPrintsUptoRow, standIns := [], harness := (true, "6d35de1e401f8de53127ac5c61a8cef0ec1bad88697796d15747f2a67ee9c756"), looks := true }, kinds := [], alts := [], laidByText := true, laidKinds := [.data, .data, .data, .data, .pinned], laidTests := true, laidLooks := .later }
def LevelPrintsUptoCardSaid : Prop := Claim7.holds Tryz.pinned (.plain (OpenSpec.upto levelPrintsSpec)) levelPrintsUptoCard

/-- THE SECOND FORM's CARD OF 'quinarialaw01.LevelReads'. -/
def levelReadsUptoCard : Claim7 := { stood := { row := levelReadsUptoRow, standIns := [], harness := (true, "6d35de1e401f8de53127ac5c61a8cef0ec1bad88697796d15747f2a67ee9c756"), looks := true }, kinds := [], alts := [], laidByText := true, laidKinds := [.data, .data, .data, .data, .pinned], laidTests := true, laidLooks := .later }
def LevelReadsUptoCardSaid : Prop := Claim7.holds Tryz.pinned (.plain (OpenSpec.upto levelReadsSpec)) levelReadsUptoCard

/-- THE SECOND FORM's CARD OF 'quinarialaw01.LevelSpoilt'. -/
def levelSpoiltUptoCard : Claim7 := { stood := { row := levelSpoiltUptoRow, standIns := [], harness := (true, "6d35de1e401f8de53127ac5c61a8cef0ec1bad88697796d15747f2a67ee9c756"), looks := true }, kinds := [], alts := [], laidByText := true, laidKinds := [.data, .data, .data, .data, .pinned], laidTests := true, laidLooks := .later }
def LevelSpoiltUptoCardSaid : Prop := Claim7.holds Tryz.pinned (.plain (OpenSpec.upto levelSpoiltSpec)) levelSpoiltUptoCard

/-- THE SECOND FORM's CARD OF 'quinarialaw01.LevelLowest'. -/
def levelLowestUptoCard : Claim7 := { stood := { row := levelLowestUptoRow, standIns := [], harness := (true, "6d35de1e401f8de53127ac5c61a8cef0ec1bad88697796d15747f2a67ee9c756"), looks := true }, kinds := [], alts := [], laidByText := true, laidKinds := [.data, .data, .data, .data, .pinned], laidTests := true, laidLooks := .later }
def LevelLowestUptoCardSaid : Prop := Claim7.holds Tryz.pinned (.plain (OpenSpec.upto levelLowestSpec)) levelLowestUptoCard

/-- THE SECOND FORM's CARD OF 'quinarialaw01.LevelSurely'. -/
def levelSurelyUptoCard : Claim7 := { stood := { row := levelSurelyUptoRow, standIns := [], harness := (true, "6d35de1e401f8de53127ac5c61a8cef0ec1bad88697796d15747f2a67ee9c756"), looks := true }, kinds := [], alts := [], laidByText := true, laidKinds := [.data, .data, .data, .data, .pinned], laidTests := true, laidLooks := .later }
def LevelSurelyUptoCardSaid : Prop := Claim7.holds Tryz.pinned (.plain (OpenSpec.upto levelSurelySpec)) levelSurelyUptoCard

/-- THE SECOND FORM's CARD OF 'quinarialaw01.LevelHeads'. -/
def levelHeadsUptoCard : Claim7 := { stood := { row := levelHeadsUptoRow, standIns := [], harness := (true, "6d35de1e401f8de53127ac5c61a8cef0ec1bad88697796d15747f2a67ee9c756"), looks := true }, kinds := [], alts := [], laidByText := true, laidKinds := [.data, .data, .data, .data, .pinned], laidTests := true, laidLooks := .later }
def LevelHeadsUptoCardSaid : Prop := Claim7.holds Tryz.pinned (.plain (OpenSpec.upto levelHeadsSpec)) levelHeadsUptoCard

/-- THE SECOND FORM's CARD OF 'quinarialaw01.LevelTrue'. -/
def levelTrueUptoCard : Claim7 := { stood := { row := levelTrueUptoRow, standIns := [], harness := (true, "6d35de1e401f8de53127ac5c61a8cef0ec1bad88697796d15747f2a67ee9c756"), looks := true }, kinds := [], alts := [], laidByText := true, laidKinds := [.data, .data, .data, .data, .pinned], laidTests := true, laidLooks := .later }
def LevelTrueUptoCardSaid : Prop := Claim7.holds Tryz.pinned (.plain (OpenSpec.upto levelTrueSpec)) levelTrueUptoCard

/-- THE SECOND FORM's CARD OF 'quinarialaw01.LevelRings'. -/
def levelRingsUptoCard : Claim7 := { stood := { row := levelRingsUptoRow, standIns := [], harness := (true, "6d35de1e401f8de53127ac5c61a8cef0ec1bad88697796d15747f2a67ee9c756"), looks := true }, kinds := [], alts := [], laidByText := true, laidKinds := [.data, .data, .data, .data, .pinned], laidTests := true, laidLooks := .later }
def LevelRingsUptoCardSaid : Prop := Claim7.holds Tryz.pinned (.plain (OpenSpec.upto levelRingsSpec)) levelRingsUptoCard

/-- THE SECOND FORM's CARD OF 'quinarialaw01.LevelFits'. -/
def levelFitsUptoCard : Claim7 := { stood := { row := levelFitsUptoRow, standIns := [], harness := (true, "6d35de1e401f8de53127ac5c61a8cef0ec1bad88697796d15747f2a67ee9c756"), looks := true }, kinds := [], alts := [], laidByText := true, laidKinds := [.data, .data, .data, .data, .pinned], laidTests := true, laidLooks := .later }
def LevelFitsUptoCardSaid : Prop := Claim7.holds Tryz.pinned (.plain (OpenSpec.upto levelFitsSpec)) levelFitsUptoCard

/-- THE SECOND FORM's CARD OF 'quinarialaw01.LevelFewest'. -/
def levelFewestUptoCard : Claim7 := { stood := { row := levelFewestUptoRow, standIns := [], harness := (true, "6d35de1e401f8de53127ac5c61a8cef0ec1bad88697796d15747f2a67ee9c756"), looks := true }, kinds := [], alts := [], laidByText := true, laidKinds := [.data, .data, .data, .data, .pinned], laidTests := true, laidLooks := .later }
def LevelFewestUptoCardSaid : Prop := Claim7.holds Tryz.pinned (.plain (OpenSpec.upto levelFewestSpec)) levelFewestUptoCard

/-- THE SECOND FORM's CARD OF 'quinarialaw01.LevelClosed'. -/
def levelClosedUptoCard : Claim7 := { stood := { row := levelClosedUptoRow, standIns := [], harness := (true, "6d35de1e401f8de53127ac5c61a8cef0ec1bad88697796d15747f2a67ee9c756"), looks := true }, kinds := [], alts := [], laidByText := true, laidKinds := [.data, .data, .data, .data, .pinned], laidTests := true, laidLooks := .later }
def LevelClosedUptoCardSaid : Prop := Claim7.holds Tryz.pinned (.plain (OpenSpec.upto levelClosedSpec)) levelClosedUptoCard
end Rows
end Go.Proofs.YtclmbbofpaecaaaGreatDoor
