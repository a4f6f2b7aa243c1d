/-
  DERIVED. GIVEN WITH THE SEED: THE CARDS: each row of YtlagjjpbknpdkaaGreatDoorRows.lean that lists a variable, with what it lists TIED to the program's text (the seventh form; the later family's looks); each row that meets fmt, with fmt's text TOLD by the authors' own Lean function (tested against real Go, not proved from fmt's source: count such statements apart). THE CARD IS WHAT COUNTS. Prove the row's statement (the work); the ties are given (YtlagjjpbknpdkaaGreatDoorTie.lean); close each card by the builder's one call (the guide's Derived/Test/ToyasCard.lean, 'card_holds'). Laid BY PROGRAM, IN A SANDBOX (cutbox-door.mjs). By AI agents, Wed Nov 11 2026. No macro, syntax, notation, axiom, sorry.
-/
import Derived.Test.YtlagjjpbknpdkaaGreatDoorRows
import GoSem.ClaimSeven
namespace Go.Proofs.YtlagjjpbknpdkaaGreatDoor
namespace Rows

/-- THE TIED CARD OF 'quinarialaw05.LeakKnown'. -/
def leakKnownCard : Claim7 := { stood := { row := leakKnownRow, standIns := [], harness := (true, "5c6622e914059dc0c63430be596aba21c5260fd2905d10a2bebba2a48091937f"), looks := true }, kinds := [], alts := [], laidByText := true, laidKinds := [.data, .data, .data, .data, .pinned], laidTests := true, laidLooks := .later }
def LeakKnownCardSaid : Prop := Claim7.holds Tryz.pinned (.plain (OpenSpec.ofChange leakKnownSpec)) leakKnownCard

/-- THE TIED CARD OF 'quinarialaw05.LeakSets'. -/
def leakSetsCard : Claim7 := { stood := { row := leakSetsRow, standIns := [], harness := (true, "5c6622e914059dc0c63430be596aba21c5260fd2905d10a2bebba2a48091937f"), looks := true }, kinds := [], alts := [], laidByText := true, laidKinds := [.data, .data, .data, .data, .pinned], laidTests := true, laidLooks := .later }
def LeakSetsCardSaid : Prop := Claim7.holds Tryz.pinned (.plain (OpenSpec.ofChange leakSetsSpec)) leakSetsCard

/-- THE TIED CARD OF 'quinarialaw05.LeakFlows'. -/
def leakFlowsCard : Claim7 := { stood := { row := leakFlowsRow, standIns := [], harness := (true, "5c6622e914059dc0c63430be596aba21c5260fd2905d10a2bebba2a48091937f"), looks := true }, kinds := [], alts := [], laidByText := true, laidKinds := [.data, .data, .data, .data, .pinned], laidTests := true, laidLooks := .later }
def LeakFlowsCardSaid : Prop := Claim7.holds Tryz.pinned (.plain (OpenSpec.ofChange leakFlowsSpec)) leakFlowsCard

/-- THE TIED CARD OF 'quinarialaw05.LeakEnds'. -/
def leakEndsCard : Claim7 := { stood := { row := leakEndsRow, standIns := [], harness := (true, "5c6622e914059dc0c63430be596aba21c5260fd2905d10a2bebba2a48091937f"), looks := true }, kinds := [], alts := [], laidByText := true, laidKinds := [.data, .data, .data, .data, .pinned], laidTests := true, laidLooks := .later }
def LeakEndsCardSaid : Prop := Claim7.holds Tryz.pinned (.plain (OpenSpec.ofChange leakEndsSpec)) leakEndsCard

/-- THE TIED CARD OF 'quinarialaw05.LeakNexts'. -/
def leakNextsCard : Claim7 := { stood := { row := leakNextsRow, standIns := [], harness := (true, "5c6622e914059dc0c63430be596aba21c5260fd2905d10a2bebba2a48091937f"), looks := true }, kinds := [], alts := [], laidByText := true, laidKinds := [.data, .data, .data, .data, .pinned], laidTests := true, laidLooks := .later }
def LeakNextsCardSaid : Prop := Claim7.holds Tryz.pinned (.plain (OpenSpec.ofChange leakNextsSpec)) leakNextsCard

/-- THE TIED CARD OF 'quinarialaw05.LeakNarrow'. -/
def leakNarrowCard : Claim7 := { stood := { row := leakNarrowRow, standIns := [], harness := (true, "5c6622e914059dc0c63430be596aba21c5260fd2905d10a2bebba2a48091937f"), looks := true }, kinds := [], alts := [], laidByText := true, laidKinds := [.data, .data, .data, .data, .pinned], laidTests := true, laidLooks := .later }
def LeakNarrowCardSaid : Prop := Claim7.holds Tryz.pinned (.plain (OpenSpec.ofChange leakNarrowSpec)) leakNarrowCard

/-- THE TIED CARD OF 'quinarialaw05.LeakTells'. -/
def leakTellsCard : Claim7 := { stood := { row := leakTellsRow, standIns := [], harness := (true, "5c6622e914059dc0c63430be596aba21c5260fd2905d10a2bebba2a48091937f"), looks := true }, kinds := [], alts := [], laidByText := true, laidKinds := [.data, .data, .data, .data, .pinned], laidTests := true, laidLooks := .later }
def LeakTellsCardSaid : Prop := Claim7.holds Tryz.pinned (.plain (OpenSpec.ofChange leakTellsSpec)) leakTellsCard

/-- THE TIED CARD OF 'quinarialaw05.LeakClashes'. -/
def leakClashesCard : Claim7 := { stood := { row := leakClashesRow, standIns := [], harness := (true, "5c6622e914059dc0c63430be596aba21c5260fd2905d10a2bebba2a48091937f"), looks := true }, kinds := [], alts := [], laidByText := true, laidKinds := [.data, .data, .data, .data, .pinned], laidTests := true, laidLooks := .later }
def LeakClashesCardSaid : Prop := Claim7.holds Tryz.pinned (.plain (OpenSpec.ofChange leakClashesSpec)) leakClashesCard

/-- THE TIED CARD OF 'quinarialaw05.LeakClear'. -/
def leakClearCard : Claim7 := { stood := { row := leakClearRow, standIns := [], harness := (true, "5c6622e914059dc0c63430be596aba21c5260fd2905d10a2bebba2a48091937f"), looks := true }, kinds := [], alts := [], laidByText := true, laidKinds := [.data, .data, .data, .data, .pinned], laidTests := true, laidLooks := .later }
def LeakClearCardSaid : Prop := Claim7.holds Tryz.pinned (.plain (OpenSpec.ofChange leakClearSpec)) leakClearCard

/-- THE TIED CARD OF 'quinarialaw05.LeakMore'. -/
def leakMoreCard : Claim7 := { stood := { row := leakMoreRow, standIns := [], harness := (true, "5c6622e914059dc0c63430be596aba21c5260fd2905d10a2bebba2a48091937f"), looks := true }, kinds := [], alts := [], laidByText := true, laidKinds := [.data, .data, .data, .data, .pinned], laidTests := true, laidLooks := .later }
def LeakMoreCardSaid : Prop := Claim7.holds Tryz.pinned (.plain (OpenSpec.ofChange leakMoreSpec)) leakMoreCard

/-- THE TIED CARD OF 'quinarialaw05.LeakPrints'. -/
def leakPrintsCard : Claim7 := { stood := { row := leakPrintsRow, standIns := [], harness := (true, "5c6622e914059dc0c63430be596aba21c5260fd2905d10a2bebba2a48091937f"), looks := true }, kinds := [], alts := [], laidByText := true, laidKinds := [.data, .data, .data, .data, .pinned], laidTests := true, laidLooks := .later }
def LeakPrintsCardSaid : Prop := Claim7.holds Tryz.pinned (.plain (OpenSpec.ofChange leakPrintsSpec)) leakPrintsCard

/-- THE TIED CARD OF 'quinarialaw05.LeakReads'. -/
def leakReadsCard : Claim7 := { stood := { row := leakReadsRow, standIns := [], harness := (true, "5c6622e914059dc0c63430be596aba21c5260fd2905d10a2bebba2a48091937f"), looks := true }, kinds := [], alts := [], laidByText := true, laidKinds := [.data, .data, .data, .data, .pinned], laidTests := true, laidLooks := .later }
def LeakReadsCardSaid : Prop := Claim7.holds Tryz.pinned (.plain (OpenSpec.ofChange leakReadsSpec)) leakReadsCard

/-- THE TIED CARD OF 'quinarialaw05.LeakSpoilt'. -/
def leakSpoiltCard : Claim7 := { stood := { row := leakSpoiltRow, standIns := [], harness := (true, "5c6622e914059dc0c63430be596aba21c5260fd2905d10a2bebba2a48091937f"), looks := true }, kinds := [], alts := [], laidByText := true, laidKinds := [.data, .data, .data, .data, .pinned], laidTests := true, laidLooks := .later }
def LeakSpoiltCardSaid : Prop := Claim7.holds Tryz.pinned (.plain (OpenSpec.ofChange leakSpoiltSpec)) leakSpoiltCard

/-- THE TIED CARD OF 'quinarialaw05.LeakTrue'. -/
def leakTrueCard : Claim7 := { stood := { row := leakTrueRow, standIns := [], harness := (true, "5c6622e914059dc0c63430be596aba21c5260fd2905d10a2bebba2a48091937f"), looks := true }, kinds := [], alts := [], laidByText := true, laidKinds := [.data, .data, .data, .data, .pinned], laidTests := true, laidLooks := .later }
def LeakTrueCardSaid : Prop := Claim7.holds Tryz.pinned (.plain (OpenSpec.ofChange leakTrueSpec)) leakTrueCard

/-- THE TIED CARD OF 'quinarialaw05.LeakPlans'. -/
def leakPlansCard : Claim7 := { stood := { row := leakPlansRow, standIns := [], harness := (true, "5c6622e914059dc0c63430be596aba21c5260fd2905d10a2bebba2a48091937f"), looks := true }, kinds := [], alts := [], laidByText := true, laidKinds := [.data, .data, .data, .data, .pinned], laidTests := true, laidLooks := .later }
def LeakPlansCardSaid : Prop := Claim7.holds Tryz.pinned (.plain (OpenSpec.ofChange leakPlansSpec)) leakPlansCard

/-- THE TIED CARD OF 'quinarialaw05.LeakFits'. -/
def leakFitsCard : Claim7 := { stood := { row := leakFitsRow, standIns := [], harness := (true, "5c6622e914059dc0c63430be596aba21c5260fd2905d10a2bebba2a48091937f"), looks := true }, kinds := [], alts := [], laidByText := true, laidKinds := [.data, .data, .data, .data, .pinned], laidTests := true, laidLooks := .later }
def LeakFitsCardSaid : Prop := Claim7.holds Tryz.pinned (.plain (OpenSpec.ofChange leakFitsSpec)) leakFitsCard

/-- THE SECOND FORM's CARD OF 'quinarialaw05.LeakKnown'. -/
def leakKnownUptoCard : Claim7 := { stood := { row := leakKnownUptoRow, standIns := [], harness := (true, "5c6622e914059dc0c63430be596aba21c5260fd2905d10a2bebba2a48091937f"), looks := true }, kinds := [], alts := [], laidByText := true, laidKinds := [.data, .data, .data, .data, .pinned], laidTests := true, laidLooks := .later }
def LeakKnownUptoCardSaid : Prop := Claim7.holds Tryz.pinned (.plain (OpenSpec.upto leakKnownSpec)) leakKnownUptoCard

/-- THE SECOND FORM's CARD OF 'quinarialaw05.LeakSets'. -/
def leakSetsUptoCard : Claim7 := { stood := { row := leakSetsUptoRow, standIns := [], harness := (true, "5c6622e914059dc0c63430be596aba21c5260fd2905d10a2bebba2a48091937f"), looks := true }, kinds := [], alts := [], laidByText := true, laidKinds := [.data, .data, .data, .data, .pinned], laidTests := true, laidLooks := .later }
def LeakSetsUptoCardSaid : Prop := Claim7.holds Tryz.pinned (.plain (OpenSpec.upto leakSetsSpec)) leakSetsUptoCard

/-- THE SECOND FORM's CARD OF 'quinarialaw05.LeakFlows'. -/
def leakFlowsUptoCard : Claim7 := { stood := { row := leakFlowsUptoRow, standIns := [], harness := (true, "5c6622e914059dc0c63430be596aba21c5260fd2905d10a2bebba2a48091937f"), looks := true }, kinds := [], alts := [], laidByText := true, laidKinds := [.data, .data, .data, .data, .pinned], laidTests := true, laidLooks := .later }
def LeakFlowsUptoCardSaid : Prop := Claim7.holds Tryz.pinned (.plain (OpenSpec.upto leakFlowsSpec)) leakFlowsUptoCard

/-- THE SECOND FORM's CARD OF 'quinarialaw05.LeakEnds'. -/
def leakEndsUptoCard : Claim7 := { stood := { row := leakEndsUptoRow, standIns := [], harness := (true, "5c6622e914059dc0c63430be596aba21c5260fd2905d10a2bebba2a48091937f"), looks := true }, kinds := [], alts := [], laidByText := true, laidKinds := [.data, .data, .data, .data, .pinned], laidTests := true, laidLooks := .later }
def LeakEndsUptoCardSaid : Prop := Claim7.holds Tryz.pinned (.plain (OpenSpec.upto leakEndsSpec)) leakEndsUptoCard

/-- THE SECOND FORM's CARD OF 'quinarialaw05.LeakNexts'. -/
def leakNextsUptoCard : Claim7 := { stood := { row := leakNextsUptoRow, standIns := [], harness := (true, "5c6622e914059dc0c63430be596aba21c5260fd2905d10a2bebba2a48091937f"), looks := true }, kinds := [], alts := [], laidByText := true, laidKinds := [.data, .data, .data, .data, .pinned], laidTests := true, laidLooks := .later }
def LeakNextsUptoCardSaid : Prop := Claim7.holds Tryz.pinned (.plain (OpenSpec.upto leakNextsSpec)) leakNextsUptoCard

/-- THE SECOND FORM's CARD OF 'quinarialaw05.LeakNarrow'. -/
def leakNarrowUptoCard : Claim7 := { stood := { row := leakNarrowUptoRow, standIns := [], harness := (true, "5c6622e914059dc0c63430be596aba21c5260fd2905d10a2bebba2a48091937f"), looks := true }, kinds := [], alts := [], laidByText := true, laidKinds := [.data, .data, .data, .data, .pinned], laidTests := true, laidLooks := .later }
def LeakNarrowUptoCardSaid : Prop := Claim7.holds Tryz.pinned (.plain (OpenSpec.upto leakNarrowSpec)) leakNarrowUptoCard

/-- THE SECOND FORM's CARD OF 'quinarialaw05.LeakTells'. -/
def leakTellsUptoCard : Claim7 := { stood := { row := leakTellsUptoRow, standIns := [], harness := (true, "5c6622e914059dc0c63430be596aba21c5260fd2905d10a2bebba2a48091937f"), looks := true }, kinds := [], alts := [], laidByText := true, laidKinds := [.data, .data, .data, .data, .pinned], laidTests := true, laidLooks := .later }
def LeakTellsUptoCardSaid : Prop := Claim7.holds Tryz.pinned (.plain (OpenSpec.upto leakTellsSpec)) leakTellsUptoCard

/-- THE SECOND FORM's CARD OF 'quinarialaw05.LeakClashes'. -/
def leakClashesUptoCard : Claim7 := { stood := { row := leakClashesUptoRow, standIns := [], harness := (true, "5c6622e914059dc0c63430be596aba21c5260fd2905d10a2bebba2a48091937f"), looks := true }, kinds := [], alts := [], laidByText := true, laidKinds := [.data, .data, .data, .data, .pinned], laidTests := true, laidLooks := .later }
def LeakClashesUptoCardSaid : Prop := Claim7.holds Tryz.pinned (.plain (OpenSpec.upto leakClashesSpec)) leakClashesUptoCard

/-- THE SECOND FORM's CARD OF 'quinarialaw05.LeakClear'. -/
def leakClearUptoCard : Claim7 := { stood := { row := leakClearUptoRow, standIns := [], harness := (true, "5c6622e914059dc0c63430be596aba21c5260fd2905d10a2bebba2a48091937f"), looks := true }, kinds := [], alts := [], laidByText := true, laidKinds := [.data, .data, .data, .data, .pinned], laidTests := true, laidLooks := .later }
def LeakClearUptoCardSaid : Prop := Claim7.holds Tryz.pinned (.plain (OpenSpec.upto leakClearSpec)) leakClearUptoCard

/-- THE SECOND FORM's CARD OF 'quinarialaw05.LeakMore'. -/
def leakMoreUptoCard : Claim7 := { stood := { row := leakMoreUptoRow, standIns := [], harness := (true, "5c6622e914059dc0c63430be596aba21c5260fd2905d10a2bebba2a48091937f"), looks := true }, kinds := [], alts := [], laidByText := true, laidKinds := [.data, .data, .data, .data, .pinned], laidTests := true, laidLooks := .later }
def LeakMoreUptoCardSaid : Prop := Claim7.holds Tryz.pinned (.plain (OpenSpec.upto leakMoreSpec)) leakMoreUptoCard

/-- THE SECOND FORM's CARD OF 'quinarialaw05.LeakPrints'. -/
def leakPrintsUptoCard : Claim7 := { stood := { row := leakPrintsUptoRow, standIns := [], harness := (true, "5c6622e914059dc0c63430be596aba21c5260fd2905d10a2bebba2a48091937f"), looks := true }, kinds := [], alts := [], laidByText := true, laidKinds := [.data, .data, .data, .data, .pinned], laidTests := true, laidLooks := .later }
def LeakPrintsUptoCardSaid : Prop := Claim7.holds Tryz.pinned (.plain (OpenSpec.upto leakPrintsSpec)) leakPrintsUptoCard

/-- THE SECOND FORM's CARD OF 'quinarialaw05.LeakReads'. -/
def leakReadsUptoCard : Claim7 := { stood := { row := leakReadsUptoRow, standIns := [], harness := (true, "5c6622e914059dc0c63430be596aba21c5260fd2905d10a2bebba2a48091937f"), looks := true }, kinds := [], alts := [], laidByText := true, laidKinds := [.data, .data, .data, .data, .pinned], laidTests := true, laidLooks := .later }
def LeakReadsUptoCardSaid : Prop := Claim7.holds Tryz.pinned (.plain (OpenSpec.upto leakReadsSpec)) leakReadsUptoCard

/-- THE SECOND FORM's CARD OF 'quinarialaw05.LeakSpoilt'. -/
def leakSpoiltUptoCard : Claim7 := { stood := { row := leakSpoiltUptoRow, standIns := [], harness := (true, "5c6622e914059dc0c63430be596aba21c5260fd2905d10a2bebba2a48091937f"), looks := true }, kinds := [], alts := [], laidByText := true, laidKinds := [.data, .data, .data, .data, .pinned], laidTests := true, laidLooks := .later }
def LeakSpoiltUptoCardSaid : Prop := Claim7.holds Tryz.pinned (.plain (OpenSpec.upto leakSpoiltSpec)) leakSpoiltUptoCard

/-- THE SECOND FORM's CARD OF 'quinarialaw05.LeakTrue'. -/
def leakTrueUptoCard : Claim7 := { stood := { row := leakTrueUptoRow, standIns := [], harness := (true, "5c6622e914059dc0c63430be596aba21c5260fd2905d10a2bebba2a48091937f"), looks := true }, kinds := [], alts := [], laidByText := true, laidKinds := [.data, .data, .data, .data, .pinned], laidTests := true, laidLooks := .later }
def LeakTrueUptoCardSaid : Prop := Claim7.holds Tryz.pinned (.plain (OpenSpec.upto leakTrueSpec)) leakTrueUptoCard

/-- THE SECOND FORM's CARD OF 'quinarialaw05.LeakPlans'. -/
def leakPlansUptoCard : Claim7 := { stood := { row := leakPlansUptoRow, standIns := [], harness := (true, "5c6622e914059dc0c63430be596aba21c5260fd2905d10a2bebba2a48091937f"), looks := true }, kinds := [], alts := [], laidByText := true, laidKinds := [.data, .data, .data, .data, .pinned], laidTests := true, laidLooks := .later }
def LeakPlansUptoCardSaid : Prop := Claim7.holds Tryz.pinned (.plain (OpenSpec.upto leakPlansSpec)) leakPlansUptoCard

/-- THE SECOND FORM's CARD OF 'quinarialaw05.LeakFits'. -/
def leakFitsUptoCard : Claim7 := { stood := { row := leakFitsUptoRow, standIns := [], harness := (true, "5c6622e914059dc0c63430be596aba21c5260fd2905d10a2bebba2a48091937f"), looks := true }, kinds := [], alts := [], laidByText := true, laidKinds := [.data, .data, .data, .data, .pinned], laidTests := true, laidLooks := .later }
def LeakFitsUptoCardSaid : Prop := Claim7.holds Tryz.pinned (.plain (OpenSpec.upto leakFitsSpec)) leakFitsUptoCard
end Rows
end Go.Proofs.YtlagjjpbknpdkaaGreatDoor
