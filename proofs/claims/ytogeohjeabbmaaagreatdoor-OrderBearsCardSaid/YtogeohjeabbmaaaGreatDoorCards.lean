/-
  DERIVED. GIVEN WITH THE SEED: THE CARDS: each row of YtogeohjeabbmaaaGreatDoorRows.lean that lists a variable, with what it lists TIED to the program's text (the seventh form; the later family's looks); each row that meets fmt, with fmt's text TOLD by the authors' own Lean function (tested against real Go, not proved from fmt's source: count such statements apart). THE CARD IS WHAT COUNTS. Prove the row's statement (the work); the ties are given (YtogeohjeabbmaaaGreatDoorTie.lean); close each card by the builder's one call (the guide's Derived/Test/ToyasCard.lean, 'card_holds'). Laid BY PROGRAM, IN A SANDBOX (cutbox-door.mjs). By AI agents, Wed Nov 11 2026. No macro, syntax, notation, axiom, sorry.
-/
import Derived.Test.YtogeohjeabbmaaaGreatDoorRows
import GoSem.ClaimSeven
namespace Go.Proofs.YtogeohjeabbmaaaGreatDoor
namespace Rows

/-- THE TIED CARD OF 'honeycomblaw27.OrderBears'. -/
def orderBearsCard : Claim7 := { stood := { row := orderBearsRow, standIns := [], harness := (true, "e5dc897f44cee23cd72f3cf4aa8c2e03c9522469902010903082c4840d976f2b"), looks := true }, kinds := [], alts := [], laidByText := true, laidKinds := [.data], laidTests := true, laidLooks := .later }
def OrderBearsCardSaid : Prop := Claim7.holds Tryz.pinned (.plain (OpenSpec.ofChange orderBearsSpec)) orderBearsCard

/-- THE TIED CARD OF 'honeycomblaw27.OrderSearch'. -/
def orderSearchCard : Claim7 := { stood := { row := orderSearchRow, standIns := [], harness := (true, "e5dc897f44cee23cd72f3cf4aa8c2e03c9522469902010903082c4840d976f2b"), looks := true }, kinds := [], alts := [], laidByText := true, laidKinds := [.data], laidTests := true, laidLooks := .later }
def OrderSearchCardSaid : Prop := Claim7.holds Tryz.pinned (.plain (OpenSpec.ofChange orderSearchSpec)) orderSearchCard

/-- THE SECOND FORM's CARD OF 'honeycomblaw27.OrderBears'. -/
def orderBearsUptoCard : Claim7 := { stood := { row := orderBearsUptoRow, standIns := [], harness := (true, "e5dc897f44cee23cd72f3cf4aa8c2e03c9522469902010903082c4840d976f2b"), looks := true }, kinds := [], alts := [], laidByText := true, laidKinds := [.data], laidTests := true, laidLooks := .later }
def OrderBearsUptoCardSaid : Prop := Claim7.holds Tryz.pinned (.plain (OpenSpec.upto orderBearsSpec)) orderBearsUptoCard

/-- THE SECOND FORM's CARD OF 'honeycomblaw27.OrderSearch'. -/
def orderSearchUptoCard : Claim7 := { stood := { row := orderSearchUptoRow, standIns := [], harness := (true, "e5dc897f44cee23cd72f3cf4aa8c2e03c9522469902010903082c4840d976f2b"), looks := true }, kinds := [], alts := [], laidByText := true, laidKinds := [.data], laidTests := true, laidLooks := .later }
def OrderSearchUptoCardSaid : Prop := Claim7.holds Tryz.pinned (.plain (OpenSpec.upto orderSearchSpec)) orderSearchUptoCard
end Rows
end Go.Proofs.YtogeohjeabbmaaaGreatDoor
