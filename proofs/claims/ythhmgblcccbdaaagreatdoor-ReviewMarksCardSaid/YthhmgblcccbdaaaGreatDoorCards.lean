/-
  DERIVED. GIVEN WITH THE SEED: THE CARDS: each row of YthhmgblcccbdaaaGreatDoorRows.lean that lists a variable, with what it lists TIED to the program's text (the seventh form; the later family's looks); each row that meets fmt, with fmt's text TOLD by the authors' own Lean function (tested against real Go, not proved from fmt's source: count such statements apart). THE CARD IS WHAT COUNTS. Prove the row's statement (the work); the ties are given (YthhmgblcccbdaaaGreatDoorTie.lean); close each card by the builder's one call (the guide's Derived/Test/ToyasCard.lean, 'card_holds'). Laid BY PROGRAM, IN A SANDBOX (cutbox-door.mjs). By AI agents, Wed Nov 11 2026. No macro, syntax, notation, axiom, sorry.
-/
import Derived.Test.YthhmgblcccbdaaaGreatDoorRows
import GoSem.ClaimSeven
namespace Go.Proofs.YthhmgblcccbdaaaGreatDoor
namespace Rows

/-- THE TIED CARD OF 'committeelaw2.ReviewAdds'. -/
def reviewAddsCard : Claim7 := { stood := { row := reviewAddsRow, standIns := [], harness := (true, "1d056b123e42ad9d4faa584f8d5e935bab85efe36e5730b297934a49de756624"), looks := true }, kinds := [], alts := [], laidByText := true, laidKinds := [.data, .data, .data, .data, .sentinel, .sentinel, .pinned], laidTests := true, laidLooks := .later }
def ReviewAddsCardSaid : Prop := Claim7.holds Tryz.pinned (.plain (OpenSpec.ofChange reviewAddsSpec)) reviewAddsCard

/-- THE TIED CARD OF 'committeelaw2.ReviewLatest'. -/
def reviewLatestCard : Claim7 := { stood := { row := reviewLatestRow, standIns := [], harness := (true, "1d056b123e42ad9d4faa584f8d5e935bab85efe36e5730b297934a49de756624"), looks := true }, kinds := [], alts := [], laidByText := true, laidKinds := [.data, .data, .data, .data, .sentinel, .sentinel, .pinned], laidTests := true, laidLooks := .later }
def ReviewLatestCardSaid : Prop := Claim7.holds Tryz.pinned (.plain (OpenSpec.ofChange reviewLatestSpec)) reviewLatestCard

/-- THE TIED CARD OF 'committeelaw2.ReviewStands'. -/
def reviewStandsCard : Claim7 := { stood := { row := reviewStandsRow, standIns := [], harness := (true, "1d056b123e42ad9d4faa584f8d5e935bab85efe36e5730b297934a49de756624"), looks := true }, kinds := [], alts := [], laidByText := true, laidKinds := [.data, .data, .data, .data, .sentinel, .sentinel, .pinned], laidTests := true, laidLooks := .later }
def ReviewStandsCardSaid : Prop := Claim7.holds Tryz.pinned (.plain (OpenSpec.ofChange reviewStandsSpec)) reviewStandsCard

/-- THE TIED CARD OF 'committeelaw2.ReviewMarks'. -/
def reviewMarksCard : Claim7 := { stood := { row := reviewMarksRow, standIns := [], harness := (true, "1d056b123e42ad9d4faa584f8d5e935bab85efe36e5730b297934a49de756624"), looks := true }, kinds := [], alts := [], laidByText := true, laidKinds := [.data, .data, .data, .data, .sentinel, .sentinel, .pinned], laidTests := true, laidLooks := .later }
def ReviewMarksCardSaid : Prop := Claim7.holds Tryz.pinned (.plain (OpenSpec.ofChange reviewMarksSpec)) reviewMarksCard

/-- THE SECOND FORM's CARD OF 'committeelaw2.ReviewAdds'. -/
def reviewAddsUptoCard : Claim7 := { stood := { row := reviewAddsUptoRow, standIns := [], harness := (true, "1d056b123e42ad9d4faa584f8d5e935bab85efe36e5730b297934a49de756624"), looks := true }, kinds := [], alts := [], laidByText := true, laidKinds := [.data, .data, .data, .data, .sentinel, .sentinel, .pinned], laidTests := true, laidLooks := .later }
def ReviewAddsUptoCardSaid : Prop := Claim7.holds Tryz.pinned (.plain (OpenSpec.upto reviewAddsSpec)) reviewAddsUptoCard

/-- THE SECOND FORM's CARD OF 'committeelaw2.ReviewLatest'. -/
def reviewLatestUptoCard : Claim7 := { stood := { row := reviewLatestUptoRow, standIns := [], harness := (true, "1d056b123e42ad9d4faa584f8d5e935bab85efe36e5730b297934a49de756624"), looks := true }, kinds := [], alts := [], laidByText := true, laidKinds := [.data, .data, .data, .data, .sentinel, .sentinel, .pinned], laidTests := true, laidLooks := .later }
def ReviewLatestUptoCardSaid : Prop := Claim7.holds Tryz.pinned (.plain (OpenSpec.upto reviewLatestSpec)) reviewLatestUptoCard

/-- THE SECOND FORM's CARD OF 'committeelaw2.ReviewStands'. -/
def reviewStandsUptoCard : Claim7 := { stood := { row := reviewStandsUptoRow, standIns := [], harness := (true, "1d056b123e42ad9d4faa584f8d5e935bab85efe36e5730b297934a49de756624"), looks := true }, kinds := [], alts := [], laidByText := true, laidKinds := [.data, .data, .data, .data, .sentinel, .sentinel, .pinned], laidTests := true, laidLooks := .later }
def ReviewStandsUptoCardSaid : Prop := Claim7.holds Tryz.pinned (.plain (OpenSpec.upto reviewStandsSpec)) reviewStandsUptoCard

/-- THE SECOND FORM's CARD OF 'committeelaw2.ReviewMarks'. -/
def reviewMarksUptoCard : Claim7 := { stood := { row := reviewMarksUptoRow, standIns := [], harness := (true, "1d056b123e42ad9d4faa584f8d5e935bab85efe36e5730b297934a49de756624"), looks := true }, kinds := [], alts := [], laidByText := true, laidKinds := [.data, .data, .data, .data, .sentinel, .sentinel, .pinned], laidTests := true, laidLooks := .later }
def ReviewMarksUptoCardSaid : Prop := Claim7.holds Tryz.pinned (.plain (OpenSpec.upto reviewMarksSpec)) reviewMarksUptoCard
end Rows
end Go.Proofs.YthhmgblcccbdaaaGreatDoor
