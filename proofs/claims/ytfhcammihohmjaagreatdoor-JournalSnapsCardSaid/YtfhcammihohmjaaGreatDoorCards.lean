/-
  DERIVED. GIVEN WITH THE SEED: THE CARDS: each row of YtfhcammihohmjaaGreatDoorRows.lean that lists a variable, with what it lists TIED to the program's text (the seventh form; the later family's looks); each row that meets fmt, with fmt's text TOLD by the authors' own Lean function (tested against real Go, not proved from fmt's source: count such statements apart). THE CARD IS WHAT COUNTS. Prove the row's statement (the work); the ties are given (YtfhcammihohmjaaGreatDoorTie.lean); close each card by the builder's one call (the guide's Derived/Test/ToyasCard.lean, 'card_holds'). Laid BY PROGRAM, IN A SANDBOX (cutbox-door.mjs). By AI agents, Wed Nov 11 2026. No macro, syntax, notation, axiom, sorry.
-/
import Derived.Test.YtfhcammihohmjaaGreatDoorRows
import GoSem.ClaimSeven
namespace Go.Proofs.YtfhcammihohmjaaGreatDoor
namespace Rows

/-- THE TIED CARD OF 'palinodelaw25.JournalReplays'. -/
def journalReplaysCard : Claim7 := { stood := { row := journalReplaysRow, standIns := [], harness := (true, "dacd4b837f92803a22abd739cf04c9ab07c2c82405347fa89f6a75300f2d646a"), looks := false }, kinds := [], alts := [], laidByText := true, laidKinds := [.data, .pinned], laidTests := true, laidLooks := .later }
def JournalReplaysCardSaid : Prop := Claim7.holds Tryz.pinned (.plain (OpenSpec.ofChange journalReplaysSpec)) journalReplaysCard

/-- THE TIED CARD OF 'palinodelaw25.JournalSnaps'. -/
def journalSnapsCard : Claim7 := { stood := { row := journalSnapsRow, standIns := [], harness := (true, "dacd4b837f92803a22abd739cf04c9ab07c2c82405347fa89f6a75300f2d646a"), looks := false }, kinds := [], alts := [], laidByText := true, laidKinds := [.data, .pinned], laidTests := true, laidLooks := .later }
def JournalSnapsCardSaid : Prop := Claim7.holds Tryz.pinned (.plain (OpenSpec.ofChange journalSnapsSpec)) journalSnapsCard

/-- THE TIED CARD OF 'palinodelaw25.JournalPlays'. -/
def journalPlaysCard : Claim7 := { stood := { row := journalPlaysRow, standIns := [], harness := (true, "dacd4b837f92803a22abd739cf04c9ab07c2c82405347fa89f6a75300f2d646a"), looks := false }, kinds := [], alts := [], laidByText := true, laidKinds := [.data, .pinned], laidTests := true, laidLooks := .later }
def JournalPlaysCardSaid : Prop := Claim7.holds Tryz.pinned (.plain (OpenSpec.ofChange journalPlaysSpec)) journalPlaysCard

/-- THE TIED CARD OF 'palinodelaw25.JournalNone'. -/
def journalNoneCard : Claim7 := { stood := { row := journalNoneRow, standIns := [], harness := (true, "dacd4b837f92803a22abd739cf04c9ab07c2c82405347fa89f6a75300f2d646a"), looks := false }, kinds := [], alts := [], laidByText := true, laidKinds := [.data, .pinned], laidTests := true, laidLooks := .later }
def JournalNoneCardSaid : Prop := Claim7.holds Tryz.pinned (.plain (OpenSpec.ofChange journalNoneSpec)) journalNoneCard

/-- THE SECOND FORM's CARD OF 'palinodelaw25.JournalReplays'. -/
def journalReplaysUptoCard : Claim7 := { stood := { row := journalReplaysUptoRow, standIns := [], harness := (true, "dacd4b837f92803a22abd739cf04c9ab07c2c82405347fa89f6a75300f2d646a"), looks := false }, kinds := [], alts := [], laidByText := true, laidKinds := [.data, .pinned], laidTests := true, laidLooks := .later }
def JournalReplaysUptoCardSaid : Prop := Claim7.holds Tryz.pinned (.plain (OpenSpec.upto journalReplaysSpec)) journalReplaysUptoCard

/-- THE SECOND FORM's CARD OF 'palinodelaw25.JournalSnaps'. -/
def journalSnapsUptoCard : Claim7 := { stood := { row := journalSnapsUptoRow, standIns := [], harness := (true, "dacd4b837f92803a22abd739cf04c9ab07c2c82405347fa89f6a75300f2d646a"), looks := false }, kinds := [], alts := [], laidByText := true, laidKinds := [.data, .pinned], laidTests := true, laidLooks := .later }
def JournalSnapsUptoCardSaid : Prop := Claim7.holds Tryz.pinned (.plain (OpenSpec.upto journalSnapsSpec)) journalSnapsUptoCard

/-- THE SECOND FORM's CARD OF 'palinodelaw25.JournalPlays'. -/
def journalPlaysUptoCard : Claim7 := { stood := { row := journalPlaysUptoRow, standIns := [], harness := (true, "dacd4b837f92803a22abd739cf04c9ab07c2c82405347fa89f6a75300f2d646a"), looks := false }, kinds := [], alts := [], laidByText := true, laidKinds := [.data, .pinned], laidTests := true, laidLooks := .later }
def JournalPlaysUptoCardSaid : Prop := Claim7.holds Tryz.pinned (.plain (OpenSpec.upto journalPlaysSpec)) journalPlaysUptoCard

/-- THE SECOND FORM's CARD OF 'palinodelaw25.JournalNone'. -/
def journalNoneUptoCard : Claim7 := { stood := { row := journalNoneUptoRow, standIns := [], harness := (true, "dacd4b837f92803a22abd739cf04c9ab07c2c82405347fa89f6a75300f2d646a"), looks := false }, kinds := [], alts := [], laidByText := true, laidKinds := [.data, .pinned], laidTests := true, laidLooks := .later }
def JournalNoneUptoCardSaid : Prop := Claim7.holds Tryz.pinned (.plain (OpenSpec.upto journalNoneSpec)) journalNoneUptoCard
end Rows
end Go.Proofs.YtfhcammihohmjaaGreatDoor
