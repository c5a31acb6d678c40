/-
  DERIVED. GIVEN WITH THE SEED: THE CARDS: each row of YtogeohjeabbmaaaDoorRows.lean that lists a variable, with what it lists TIED to the program's text (the seventh form; the later family's looks); each row that meets fmt, with fmt's text TOLD by the authors' own Lean function (tested against real Go, not proved from fmt's source: count such statements apart). THE CARD IS WHAT COUNTS. Prove the row's statement (the work); the ties are given (YtogeohjeabbmaaaDoorTie.lean); close each card by the builder's one call (the guide's Derived/Test/ToyasCard.lean, 'card_holds'). Laid BY PROGRAM, IN A SANDBOX (cutbox-door.mjs). By AI agents, Wed Nov 11 2026. No macro, syntax, notation, axiom, sorry.
-/
import Derived.Test.YtogeohjeabbmaaaDoorRows
import GoSem.ClaimSeven
namespace Go.Proofs.YtogeohjeabbmaaaDoor
namespace Rows

/-- THE TIED CARD OF 'honeycomblaw27.OrderOne'. -/
def orderOneCard : Claim7 := { stood := { row := orderOneRow, standIns := [], harness := (true, "92cb1576ef9150e827448d2f098e382c78b20cd6afd91f27f14a3eda7eb60f20"), looks := true }, kinds := [], alts := [], laidByText := true, laidKinds := [.data], laidTests := true, laidLooks := .later }
def OrderOneCardSaid : Prop := Claim7.holds Tryd.pinned (.plain (OpenSpec.ofChange orderOneSpec)) orderOneCard

/-- THE TIED CARD OF 'honeycomblaw27.OrderFinds'. -/
def orderFindsCard : Claim7 := { stood := { row := orderFindsRow, standIns := [], harness := (true, "92cb1576ef9150e827448d2f098e382c78b20cd6afd91f27f14a3eda7eb60f20"), looks := true }, kinds := [], alts := [], laidByText := true, laidKinds := [.data], laidTests := true, laidLooks := .later }
def OrderFindsCardSaid : Prop := Claim7.holds Tryd.pinned (.plain (OpenSpec.ofChange orderFindsSpec)) orderFindsCard

/-- THE TIED CARD OF 'honeycomblaw27.OrderFree'. -/
def orderFreeCard : Claim7 := { stood := { row := orderFreeRow, standIns := [], harness := (true, "92cb1576ef9150e827448d2f098e382c78b20cd6afd91f27f14a3eda7eb60f20"), looks := true }, kinds := [], alts := [], laidByText := true, laidKinds := [.data], laidTests := true, laidLooks := .later }
def OrderFreeCardSaid : Prop := Claim7.holds Tryd.pinned (.plain (OpenSpec.ofChange orderFreeSpec)) orderFreeCard

/-- THE TIED CARD OF 'honeycomblaw27.OrderMay'. -/
def orderMayCard : Claim7 := { stood := { row := orderMayRow, standIns := [], harness := (true, "92cb1576ef9150e827448d2f098e382c78b20cd6afd91f27f14a3eda7eb60f20"), looks := true }, kinds := [], alts := [], laidByText := true, laidKinds := [.data], laidTests := true, laidLooks := .later }
def OrderMayCardSaid : Prop := Claim7.holds Tryd.pinned (.plain (OpenSpec.ofChange orderMaySpec)) orderMayCard

/-- THE SECOND FORM's CARD OF 'honeycomblaw27.OrderOne'. -/
def orderOneUptoCard : Claim7 := { stood := { row := orderOneUptoRow, standIns := [], harness := (true, "92cb1576ef9150e827448d2f098e382c78b20cd6afd91f27f14a3eda7eb60f20"), looks := true }, kinds := [], alts := [], laidByText := true, laidKinds := [.data], laidTests := true, laidLooks := .later }
def OrderOneUptoCardSaid : Prop := Claim7.holds Tryd.pinned (.plain (OpenSpec.upto orderOneSpec)) orderOneUptoCard

/-- THE SECOND FORM's CARD OF 'honeycomblaw27.OrderFinds'. -/
def orderFindsUptoCard : Claim7 := { stood := { row := orderFindsUptoRow, standIns := [], harness := (true, "92cb1576ef9150e827448d2f098e382c78b20cd6afd91f27f14a3eda7eb60f20"), looks := true }, kinds := [], alts := [], laidByText := true, laidKinds := [.data], laidTests := true, laidLooks := .later }
def OrderFindsUptoCardSaid : Prop := Claim7.holds Tryd.pinned (.plain (OpenSpec.upto orderFindsSpec)) orderFindsUptoCard

/-- THE SECOND FORM's CARD OF 'honeycomblaw27.OrderFree'. -/
def orderFreeUptoCard : Claim7 := { stood := { row := orderFreeUptoRow, standIns := [], harness := (true, "92cb1576ef9150e827448d2f098e382c78b20cd6afd91f27f14a3eda7eb60f20"), looks := true }, kinds := [], alts := [], laidByText := true, laidKinds := [.data], laidTests := true, laidLooks := .later }
def OrderFreeUptoCardSaid : Prop := Claim7.holds Tryd.pinned (.plain (OpenSpec.upto orderFreeSpec)) orderFreeUptoCard

/-- THE SECOND FORM's CARD OF 'honeycomblaw27.OrderMay'. -/
def orderMayUptoCard : Claim7 := { stood := { row := orderMayUptoRow, standIns := [], harness := (true, "92cb1576ef9150e827448d2f098e382c78b20cd6afd91f27f14a3eda7eb60f20"), looks := true }, kinds := [], alts := [], laidByText := true, laidKinds := [.data], laidTests := true, laidLooks := .later }
def OrderMayUptoCardSaid : Prop := Claim7.holds Tryd.pinned (.plain (OpenSpec.upto orderMaySpec)) orderMayUptoCard
end Rows
end Go.Proofs.YtogeohjeabbmaaaDoor
