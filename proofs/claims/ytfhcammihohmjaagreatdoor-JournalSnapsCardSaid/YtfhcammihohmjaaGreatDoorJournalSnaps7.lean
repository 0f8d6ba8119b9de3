/- The functions that the statement reaches, and what they come to. Part 7. -/
import Derived.Test.YtfhcammihohmjaaGreatDoorRows
import Derived.Test.YtfhcammihohmjaaGreatDoorTie
import Derived.Test.YtfhcammihohmjaaGreatDoorCards
import Derived.ProofKit
import Derived.Stop.Joined
import Derived.SevenTiedAt
import Derived.KernelRfl
import Derived.Test.YtfhcammihohmjaaGreatDoorFw1
import Derived.Test.YtfhcammihohmjaaGreatDoorFw2
import Derived.Test.YtfhcammihohmjaaGreatDoorFw3
import Derived.Test.YtfhcammihohmjaaGreatDoorJournalSnaps1
import Derived.Test.YtfhcammihohmjaaGreatDoorJournalSnaps2
import Derived.Test.YtfhcammihohmjaaGreatDoorJournalSnaps3
import Derived.Test.YtfhcammihohmjaaGreatDoorJournalSnaps4
import Derived.Test.YtfhcammihohmjaaGreatDoorJournalSnaps5
import Derived.Test.YtfhcammihohmjaaGreatDoorJournalSnaps6
set_option linter.unusedVariables false
set_option linter.unusedSimpArgs false
set_option linter.unusedSectionVars false
noncomputable section
/- What the program's text has to be like for the statement of JournalSnaps. -/
set_option maxRecDepth 1000000
namespace Go.Proofs.YtfhcammihohmjaaGreatDoor.journalSnapsDone
open Go.ChangeShapes Go.WideShapes Go.ChangeAt Go.RowKit
theorem closed:joinedFacts Tryz.pinned.checked.prog 4 Tryz.f4 Rows.journalSnapsSpec Rows.journalSnapsRow=true:=by kernel_rfl
end Go.Proofs.YtfhcammihohmjaaGreatDoor.journalSnapsDone
end
