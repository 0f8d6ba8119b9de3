/-
  DERIVED. GIVEN WITH THE SEED: THE CARDS: each row of YthghlnmihipeoaaGreatDoorRows.lean that lists a variable, with what it lists TIED to the program's text (the seventh form; the later family's looks); each row that meets fmt, with fmt's text TOLD by the authors' own Lean function (tested against real Go, not proved from fmt's source: count such statements apart). THE CARD IS WHAT COUNTS. Prove the row's statement (the work); the ties are given (YthghlnmihipeoaaGreatDoorTie.lean); close each card by the builder's one call (the guide's Derived/Test/ToyasCard.lean, 'card_holds'). Laid BY PROGRAM, IN A SANDBOX (cutbox-door.mjs). By AI agents, Wed Nov 11 2026. No macro, syntax, notation, axiom, sorry.
-/
import Derived.Test.YthghlnmihipeoaaGreatDoorRows
import GoSem.ClaimSeven
namespace Go.Proofs.YthghlnmihipeoaaGreatDoor
namespace Rows

/-- THE TIED CARD OF 'palinodelaw22.StateGrows'. -/
def stateGrowsCard : Claim7 := { stood := { row := stateGrowsRow, standIns := [], harness := (true, "acb74b4034bb75f69f5eab50ea9ca0df38fc35b03b70733c9be859776ff4e8ac"), looks := false }, kinds := [], alts := [], laidByText := true, laidKinds := [.data, .pinned], laidTests := true, laidLooks := .later }
def StateGrowsCardSaid : Prop := Claim7.holds Tryz.pinned (.plain (OpenSpec.ofChange stateGrowsSpec)) stateGrowsCard

/-- THE TIED CARD OF 'palinodelaw22.StateOrder'. -/
def stateOrderCard : Claim7 := { stood := { row := stateOrderRow, standIns := [], harness := (true, "acb74b4034bb75f69f5eab50ea9ca0df38fc35b03b70733c9be859776ff4e8ac"), looks := false }, kinds := [], alts := [], laidByText := true, laidKinds := [.data, .pinned], laidTests := true, laidLooks := .later }
def StateOrderCardSaid : Prop := Claim7.holds Tryz.pinned (.plain (OpenSpec.ofChange stateOrderSpec)) stateOrderCard

/-- THE SECOND FORM's CARD OF 'palinodelaw22.StateGrows'. -/
def stateGrowsUptoCard : Claim7 := { stood := { row := stateGrowsUptoRow, standIns := [], harness := (true, "acb74b4034bb75f69f5eab50ea9ca0df38fc35b03b70733c9be859776ff4e8ac"), looks := false }, kinds := [], alts := [], laidByText := true, laidKinds := [.data, .pinned], laidTests := true, laidLooks := .later }
def StateGrowsUptoCardSaid : Prop := Claim7.holds Tryz.pinned (.plain (OpenSpec.upto stateGrowsSpec)) stateGrowsUptoCard

/-- THE SECOND FORM's CARD OF 'palinodelaw22.StateOrder'. -/
def stateOrderUptoCard : Claim7 := { stood := { row := stateOrderUptoRow, standIns := [], harness := (true, "acb74b4034bb75f69f5eab50ea9ca0df38fc35b03b70733c9be859776ff4e8ac"), looks := false }, kinds := [], alts := [], laidByText := true, laidKinds := [.data, .pinned], laidTests := true, laidLooks := .later }
def StateOrderUptoCardSaid : Prop := Claim7.holds Tryz.pinned (.plain (OpenSpec.upto stateOrderSpec)) stateOrderUptoCard
end Rows
end Go.Proofs.YthghlnmihipeoaaGreatDoor
