/-
  DERIVED. GIVEN WITH THE SEED: THE CARDS: each row of YtfocdbflmodfhaaDoorRows.lean that lists a variable, with what it lists TIED to the program's text (the seventh form; the later family's looks); each row that meets fmt, with fmt's text TOLD by the authors' own Lean function (tested against real Go, not proved from fmt's source: count such statements apart). THE CARD IS WHAT COUNTS. Prove the row's statement (the work); the ties are given (YtfocdbflmodfhaaDoorTie.lean); close each card by the builder's one call (the guide's Derived/Test/ToyasCard.lean, 'card_holds'). Laid BY PROGRAM, IN A SANDBOX (cutbox-door.mjs). By AI agents, Wed Nov 11 2026. No macro, syntax, notation, axiom, sorry.
-/
import Derived.Test.YtfocdbflmodfhaaDoorRows
import GoSem.ClaimSeven
namespace Go.Proofs.YtfocdbflmodfhaaDoor
namespace Rows

/-- THE TIED CARD OF 'scutagelaw11.CellsApart'. -/
def cellsApartCard : Claim7 := { stood := { row := cellsApartRow, standIns := [], harness := (true, "1afaebc71a0c625889e8326dadcb87bdca722f4e305d2ebb5ea4af5dbeb46a17"), looks := false }, kinds := [], alts := [], laidByText := true, laidKinds := [.data], laidTests := true, laidLooks := .later }
def CellsApartCardSaid : Prop := Claim7.holds Tryd.pinned (.plain (OpenSpec.ofChange cellsApartSpec)) cellsApartCard

/-- THE TIED CARD OF 'scutagelaw11.CellsRuns'. -/
def cellsRunsCard : Claim7 := { stood := { row := cellsRunsRow, standIns := [], harness := (true, "1afaebc71a0c625889e8326dadcb87bdca722f4e305d2ebb5ea4af5dbeb46a17"), looks := false }, kinds := [], alts := [], laidByText := true, laidKinds := [.data], laidTests := true, laidLooks := .later }
def CellsRunsCardSaid : Prop := Claim7.holds Tryd.pinned (.plain (OpenSpec.ofChange cellsRunsSpec)) cellsRunsCard

/-- THE TIED CARD OF 'scutagelaw11.CellsNobody'. -/
def cellsNobodyCard : Claim7 := { stood := { row := cellsNobodyRow, standIns := [], harness := (true, "1afaebc71a0c625889e8326dadcb87bdca722f4e305d2ebb5ea4af5dbeb46a17"), looks := false }, kinds := [], alts := [], laidByText := true, laidKinds := [.data], laidTests := true, laidLooks := .later }
def CellsNobodyCardSaid : Prop := Claim7.holds Tryd.pinned (.plain (OpenSpec.ofChange cellsNobodySpec)) cellsNobodyCard

/-- THE SECOND FORM's CARD OF 'scutagelaw11.CellsApart'. -/
def cellsApartUptoCard : Claim7 := { stood := { row := cellsApartUptoRow, standIns := [], harness := (true, "1afaebc71a0c625889e8326dadcb87bdca722f4e305d2ebb5ea4af5dbeb46a17"), looks := false }, kinds := [], alts := [], laidByText := true, laidKinds := [.data], laidTests := true, laidLooks := .later }
def CellsApartUptoCardSaid : Prop := Claim7.holds Tryd.pinned (.plain (OpenSpec.upto cellsApartSpec)) cellsApartUptoCard

/-- THE SECOND FORM's CARD OF 'scutagelaw11.CellsRuns'. -/
def cellsRunsUptoCard : Claim7 := { stood := { row := cellsRunsUptoRow, standIns := [], harness := (true, "1afaebc71a0c625889e8326dadcb87bdca722f4e305d2ebb5ea4af5dbeb46a17"), looks := false }, kinds := [], alts := [], laidByText := true, laidKinds := [.data], laidTests := true, laidLooks := .later }
def CellsRunsUptoCardSaid : Prop := Claim7.holds Tryd.pinned (.plain (OpenSpec.upto cellsRunsSpec)) cellsRunsUptoCard

/-- THE SECOND FORM's CARD OF 'scutagelaw11.CellsNobody'. -/
def cellsNobodyUptoCard : Claim7 := { stood := { row := cellsNobodyUptoRow, standIns := [], harness := (true, "1afaebc71a0c625889e8326dadcb87bdca722f4e305d2ebb5ea4af5dbeb46a17"), looks := false }, kinds := [], alts := [], laidByText := true, laidKinds := [.data], laidTests := true, laidLooks := .later }
def CellsNobodyUptoCardSaid : Prop := Claim7.holds Tryd.pinned (.plain (OpenSpec.upto cellsNobodySpec)) cellsNobodyUptoCard
end Rows
end Go.Proofs.YtfocdbflmodfhaaDoor
