/-
  DERIVED. GIVEN WITH THE SEED: THE CARDS: each row of YtjbaijgdkkccbaaGreatDoorRows.lean that lists a variable, with what it lists TIED to the program's text (the seventh form; the later family's looks); each row that meets fmt, with fmt's text TOLD by the authors' own Lean function (tested against real Go, not proved from fmt's source: count such statements apart). THE CARD IS WHAT COUNTS. Prove the row's statement (the work); the ties are given (YtjbaijgdkkccbaaGreatDoorTie.lean); close each card by the builder's one call (the guide's Derived/Test/ToyasCard.lean, 'card_holds'). Laid BY PROGRAM, IN A SANDBOX (cutbox-door.mjs). By AI agents, Wed Nov 11 2026. No macro, syntax, notation, axiom, sorry.
-/
import Derived.Test.YtjbaijgdkkccbaaGreatDoorRows
import GoSem.ClaimSeven
namespace Go.Proofs.YtjbaijgdkkccbaaGreatDoor
namespace Rows

/-- THE TIED CARD OF 'committeelaw2.ReviewLevels'. -/
def reviewLevelsCard : Claim7 := { stood := { row := reviewLevelsRow, standIns := [], harness := (true, "f6b337eccf2042181421568ecb8f960f102b3dd128da0622386654565cb4338c"), looks := true }, kinds := [], alts := [], laidByText := true, laidKinds := [.data, .data, .data, .data, .sentinel, .sentinel, .pinned], laidTests := true, laidLooks := .later }
def ReviewLevelsCardSaid : Prop := Claim7.holds Tryz.pinned (.plain (OpenSpec.ofChange reviewLevelsSpec)) reviewLevelsCard

/-- THE TIED CARD OF 'committeelaw2.ReviewHelpers'. -/
def reviewHelpersCard : Claim7 := { stood := { row := reviewHelpersRow, standIns := [], harness := (true, "f6b337eccf2042181421568ecb8f960f102b3dd128da0622386654565cb4338c"), looks := true }, kinds := [], alts := [], laidByText := true, laidKinds := [.data, .data, .data, .data, .sentinel, .sentinel, .pinned], laidTests := true, laidLooks := .later }
def ReviewHelpersCardSaid : Prop := Claim7.holds Tryz.pinned (.plain (OpenSpec.ofChange reviewHelpersSpec)) reviewHelpersCard

/-- THE TIED CARD OF 'committeelaw2.ReviewViews'. -/
def reviewViewsCard : Claim7 := { stood := { row := reviewViewsRow, standIns := [], harness := (true, "f6b337eccf2042181421568ecb8f960f102b3dd128da0622386654565cb4338c"), looks := true }, kinds := [], alts := [], laidByText := true, laidKinds := [.data, .data, .data, .data, .sentinel, .sentinel, .pinned], laidTests := true, laidLooks := .later }
def ReviewViewsCardSaid : Prop := Claim7.holds Tryz.pinned (.plain (OpenSpec.ofChange reviewViewsSpec)) reviewViewsCard

/-- THE TIED CARD OF 'committeelaw2.ReviewMerges'. -/
def reviewMergesCard : Claim7 := { stood := { row := reviewMergesRow, standIns := [], harness := (true, "f6b337eccf2042181421568ecb8f960f102b3dd128da0622386654565cb4338c"), looks := true }, kinds := [], alts := [], laidByText := true, laidKinds := [.data, .data, .data, .data, .sentinel, .sentinel, .pinned], laidTests := true, laidLooks := .later }
def ReviewMergesCardSaid : Prop := Claim7.holds Tryz.pinned (.plain (OpenSpec.ofChange reviewMergesSpec)) reviewMergesCard

/-- THE TIED CARD OF 'committeelaw2.SheetTexts'. -/
def sheetTextsCard : Claim7 := { stood := { row := sheetTextsRow, standIns := [], harness := (true, "f6b337eccf2042181421568ecb8f960f102b3dd128da0622386654565cb4338c"), looks := true }, kinds := [], alts := [], laidByText := true, laidKinds := [.data, .data, .data, .data, .sentinel, .sentinel, .pinned], laidTests := true, laidLooks := .later }
def SheetTextsCardSaid : Prop := Claim7.holds Tryz.pinned (.plain (OpenSpec.ofChange sheetTextsSpec)) sheetTextsCard

/-- THE TIED CARD OF 'committeelaw2.ReviewTexts'. -/
def reviewTextsCard : Claim7 := { stood := { row := reviewTextsRow, standIns := [], harness := (true, "f6b337eccf2042181421568ecb8f960f102b3dd128da0622386654565cb4338c"), looks := true }, kinds := [], alts := [], laidByText := true, laidKinds := [.data, .data, .data, .data, .sentinel, .sentinel, .pinned], laidTests := true, laidLooks := .later }
def ReviewTextsCardSaid : Prop := Claim7.holds Tryz.pinned (.plain (OpenSpec.ofChange reviewTextsSpec)) reviewTextsCard

/-- THE SECOND FORM's CARD OF 'committeelaw2.ReviewLevels'. -/
def reviewLevelsUptoCard : Claim7 := { stood := { row := reviewLevelsUptoRow, standIns := [], harness := (true, "f6b337eccf2042181421568ecb8f960f102b3dd128da0622386654565cb4338c"), looks := true }, kinds := [], alts := [], laidByText := true, laidKinds := [.data, .data, .data, .data, .sentinel, .sentinel, .pinned], laidTests := true, laidLooks := .later }
def ReviewLevelsUptoCardSaid : Prop := Claim7.holds Tryz.pinned (.plain (OpenSpec.upto reviewLevelsSpec)) reviewLevelsUptoCard

/-- THE SECOND FORM's CARD OF 'committeelaw2.ReviewHelpers'. -/
def reviewHelpersUptoCard : Claim7 := { stood := { row := reviewHelpersUptoRow, standIns := [], harness := (true, "f6b337eccf2042181421568ecb8f960f102b3dd128da0622386654565cb4338c"), looks := true }, kinds := [], alts := [], laidByText := true, laidKinds := [.data, .data, .data, .data, .sentinel, .sentinel, .pinned], laidTests := true, laidLooks := .later }
def ReviewHelpersUptoCardSaid : Prop := Claim7.holds Tryz.pinned (.plain (OpenSpec.upto reviewHelpersSpec)) reviewHelpersUptoCard

/-- THE SECOND FORM's CARD OF 'committeelaw2.ReviewViews'. -/
def reviewViewsUptoCard : Claim7 := { stood := { row := reviewViewsUptoRow, standIns := [], harness := (true, "f6b337eccf2042181421568ecb8f960f102b3dd128da0622386654565cb4338c"), looks := true }, kinds := [], alts := [], laidByText := true, laidKinds := [.data, .data, .data, .data, .sentinel, .sentinel, .pinned], laidTests := true, laidLooks := .later }
def ReviewViewsUptoCardSaid : Prop := Claim7.holds Tryz.pinned (.plain (OpenSpec.upto reviewViewsSpec)) reviewViewsUptoCard

/-- THE SECOND FORM's CARD OF 'committeelaw2.ReviewMerges'. -/
def reviewMergesUptoCard : Claim7 := { stood := { row := reviewMergesUptoRow, standIns := [], harness := (true, "f6b337eccf2042181421568ecb8f960f102b3dd128da0622386654565cb4338c"), looks := true }, kinds := [], alts := [], laidByText := true, laidKinds := [.data, .data, .data, .data, .sentinel, .sentinel, .pinned], laidTests := true, laidLooks := .later }
def ReviewMergesUptoCardSaid : Prop := Claim7.holds Tryz.pinned (.plain (OpenSpec.upto reviewMergesSpec)) reviewMergesUptoCard

/-- THE SECOND FORM's CARD OF 'committeelaw2.SheetTexts'. -/
def sheetTextsUptoCard : Claim7 := { stood := { row := sheetTextsUptoRow, standIns := [], harness := (true, "f6b337eccf2042181421568ecb8f960f102b3dd128da0622386654565cb4338c"), looks := true }, kinds := [], alts := [], laidByText := true, laidKinds := [.data, .data, .data, .data, .sentinel, .sentinel, .pinned], laidTests := true, laidLooks := .later }
def SheetTextsUptoCardSaid : Prop := Claim7.holds Tryz.pinned (.plain (OpenSpec.upto sheetTextsSpec)) sheetTextsUptoCard

/-- THE SECOND FORM's CARD OF 'committeelaw2.ReviewTexts'. -/
def reviewTextsUptoCard : Claim7 := { stood := { row := reviewTextsUptoRow, standIns := [], harness := (true, "f6b337eccf2042181421568ecb8f960f102b3dd128da0622386654565cb4338c"), looks := true }, kinds := [], alts := [], laidByText := true, laidKinds := [.data, .data, .data, .data, .sentinel, .sentinel, .pinned], laidTests := true, laidLooks := .later }
def ReviewTextsUptoCardSaid : Prop := Claim7.holds Tryz.pinned (.plain (OpenSpec.upto reviewTextsSpec)) reviewTextsUptoCard
end Rows
end Go.Proofs.YtjbaijgdkkccbaaGreatDoor
