/-
  DERIVED. GIVEN WITH THE SEED: THE CARDS: each row of YtjoejjhgneccgaaGreatDoorRows.lean that lists a variable, with what it lists TIED to the program's text (the seventh form; the later family's looks); each row that meets fmt, with fmt's text TOLD by the authors' own Lean function (tested against real Go, not proved from fmt's source: count such statements apart). THE CARD IS WHAT COUNTS. Prove the row's statement (the work); the ties are given (YtjoejjhgneccgaaGreatDoorTie.lean); close each card by the builder's one call (the guide's Derived/Test/ToyasCard.lean, 'card_holds'). Laid BY PROGRAM, IN A SANDBOX (cutbox-door.mjs). By AI agents, Wed Nov 11 2026. No macro, syntax, notation, axiom, sorry.
-/
import Derived.Test.YtjoejjhgneccgaaGreatDoorRows
import GoSem.ClaimSeven
namespace Go.Proofs.YtjoejjhgneccgaaGreatDoor
namespace Rows

/-- THE TIED CARD OF 'scutagelaw20.SweepNobody'. -/
def sweepNobodyCard : Claim7 := { stood := { row := sweepNobodyRow, standIns := [], harness := (true, "72a513d0bb3c33a426f8fa97eedb2ab51729e17e41a1d055187cef62a33474c0"), looks := false }, kinds := [], alts := [], laidByText := true, laidKinds := [.data], laidTests := true, laidLooks := .later }
def SweepNobodyCardSaid : Prop := Claim7.holds Tryz.pinned (.plain (OpenSpec.ofChange sweepNobodySpec)) sweepNobodyCard

/-- THE TIED CARD OF 'scutagelaw19.TraceNobody'. -/
def traceNobodyCard : Claim7 := { stood := { row := traceNobodyRow, standIns := [], harness := (true, "72a513d0bb3c33a426f8fa97eedb2ab51729e17e41a1d055187cef62a33474c0"), looks := false }, kinds := [], alts := [], laidByText := true, laidKinds := [.data], laidTests := true, laidLooks := .later }
def TraceNobodyCardSaid : Prop := Claim7.holds Tryz.pinned (.plain (OpenSpec.ofChange traceNobodySpec)) traceNobodyCard

/-- THE TIED CARD OF 'scutagelaw19.TraceRuns'. -/
def traceRunsCard : Claim7 := { stood := { row := traceRunsRow, standIns := [], harness := (true, "72a513d0bb3c33a426f8fa97eedb2ab51729e17e41a1d055187cef62a33474c0"), looks := false }, kinds := [], alts := [], laidByText := true, laidKinds := [.data], laidTests := true, laidLooks := .later }
def TraceRunsCardSaid : Prop := Claim7.holds Tryz.pinned (.plain (OpenSpec.ofChange traceRunsSpec)) traceRunsCard

/-- THE TIED CARD OF 'scutagelaw19.TraceReaches'. -/
def traceReachesCard : Claim7 := { stood := { row := traceReachesRow, standIns := [], harness := (true, "72a513d0bb3c33a426f8fa97eedb2ab51729e17e41a1d055187cef62a33474c0"), looks := false }, kinds := [], alts := [], laidByText := true, laidKinds := [.data], laidTests := true, laidLooks := .later }
def TraceReachesCardSaid : Prop := Claim7.holds Tryz.pinned (.plain (OpenSpec.ofChange traceReachesSpec)) traceReachesCard

/-- THE TIED CARD OF 'scutagelaw20.SweepRuns'. -/
def sweepRunsCard : Claim7 := { stood := { row := sweepRunsRow, standIns := [], harness := (true, "72a513d0bb3c33a426f8fa97eedb2ab51729e17e41a1d055187cef62a33474c0"), looks := false }, kinds := [], alts := [], laidByText := true, laidKinds := [.data], laidTests := true, laidLooks := .later }
def SweepRunsCardSaid : Prop := Claim7.holds Tryz.pinned (.plain (OpenSpec.ofChange sweepRunsSpec)) sweepRunsCard

/-- THE TIED CARD OF 'scutagelaw13.StoreNobody'. -/
def storeNobodyCard : Claim7 := { stood := { row := storeNobodyRow, standIns := [], harness := (true, "72a513d0bb3c33a426f8fa97eedb2ab51729e17e41a1d055187cef62a33474c0"), looks := false }, kinds := [], alts := [], laidByText := true, laidKinds := [.data], laidTests := true, laidLooks := .later }
def StoreNobodyCardSaid : Prop := Claim7.holds Tryz.pinned (.plain (OpenSpec.ofChange storeNobodySpec)) storeNobodyCard

/-- THE TIED CARD OF 'scutagelaw20.SweepJust'. -/
def sweepJustCard : Claim7 := { stood := { row := sweepJustRow, standIns := [], harness := (true, "72a513d0bb3c33a426f8fa97eedb2ab51729e17e41a1d055187cef62a33474c0"), looks := false }, kinds := [], alts := [], laidByText := true, laidKinds := [.data], laidTests := true, laidLooks := .later }
def SweepJustCardSaid : Prop := Claim7.holds Tryz.pinned (.plain (OpenSpec.ofChange sweepJustSpec)) sweepJustCard

/-- THE SECOND FORM's CARD OF 'scutagelaw20.SweepNobody'. -/
def sweepNobodyUptoCard : Claim7 := { stood := { row := sweepNobodyUptoRow, standIns := [], harness := (true, "72a513d0bb3c33a426f8fa97eedb2ab51729e17e41a1d055187cef62a33474c0"), looks := false }, kinds := [], alts := [], laidByText := true, laidKinds := [.data], laidTests := true, laidLooks := .later }
def SweepNobodyUptoCardSaid : Prop := Claim7.holds Tryz.pinned (.plain (OpenSpec.upto sweepNobodySpec)) sweepNobodyUptoCard

/-- THE SECOND FORM's CARD OF 'scutagelaw19.TraceNobody'. -/
def traceNobodyUptoCard : Claim7 := { stood := { row := traceNobodyUptoRow, standIns := [], harness := (true, "72a513d0bb3c33a426f8fa97eedb2ab51729e17e41a1d055187cef62a33474c0"), looks := false }, kinds := [], alts := [], laidByText := true, laidKinds := [.data], laidTests := true, laidLooks := .later }
def TraceNobodyUptoCardSaid : Prop := Claim7.holds Tryz.pinned (.plain (OpenSpec.upto traceNobodySpec)) traceNobodyUptoCard

/-- THE SECOND FORM's CARD OF 'scutagelaw19.TraceRuns'. -/
def traceRunsUptoCard : Claim7 := { stood := { row := traceRunsUptoRow, standIns := [], harness := (true, "72a513d0bb3c33a426f8fa97eedb2ab51729e17e41a1d055187cef62a33474c0"), looks := false }, kinds := [], alts := [], laidByText := true, laidKinds := [.data], laidTests := true, laidLooks := .later }
def TraceRunsUptoCardSaid : Prop := Claim7.holds Tryz.pinned (.plain (OpenSpec.upto traceRunsSpec)) traceRunsUptoCard

/-- THE SECOND FORM's CARD OF 'scutagelaw19.TraceReaches'. -/
def traceReachesUptoCard : Claim7 := { stood := { row := traceReachesUptoRow, standIns := [], harness := (true, "72a513d0bb3c33a426f8fa97eedb2ab51729e17e41a1d055187cef62a33474c0"), looks := false }, kinds := [], alts := [], laidByText := true, laidKinds := [.data], laidTests := true, laidLooks := .later }
def TraceReachesUptoCardSaid : Prop := Claim7.holds Tryz.pinned (.plain (OpenSpec.upto traceReachesSpec)) traceReachesUptoCard

/-- THE SECOND FORM's CARD OF 'scutagelaw20.SweepRuns'. -/
def sweepRunsUptoCard : Claim7 := { stood := { row := sweepRunsUptoRow, standIns := [], harness := (true, "72a513d0bb3c33a426f8fa97eedb2ab51729e17e41a1d055187cef62a33474c0"), looks := false }, kinds := [], alts := [], laidByText := true, laidKinds := [.data], laidTests := true, laidLooks := .later }
def SweepRunsUptoCardSaid : Prop := Claim7.holds Tryz.pinned (.plain (OpenSpec.upto sweepRunsSpec)) sweepRunsUptoCard

/-- THE SECOND FORM's CARD OF 'scutagelaw13.StoreNobody'. -/
def storeNobodyUptoCard : Claim7 := { stood := { row := storeNobodyUptoRow, standIns := [], harness := (true, "72a513d0bb3c33a426f8fa97eedb2ab51729e17e41a1d055187cef62a33474c0"), looks := false }, kinds := [], alts := [], laidByText := true, laidKinds := [.data], laidTests := true, laidLooks := .later }
def StoreNobodyUptoCardSaid : Prop := Claim7.holds Tryz.pinned (.plain (OpenSpec.upto storeNobodySpec)) storeNobodyUptoCard

/-- THE SECOND FORM's CARD OF 'scutagelaw20.SweepJust'. -/
def sweepJustUptoCard : Claim7 := { stood := { row := sweepJustUptoRow, standIns := [], harness := (true, "72a513d0bb3c33a426f8fa97eedb2ab51729e17e41a1d055187cef62a33474c0"), looks := false }, kinds := [], alts := [], laidByText := true, laidKinds := [.data], laidTests := true, laidLooks := .later }
def SweepJustUptoCardSaid : Prop := Claim7.holds Tryz.pinned (.plain (OpenSpec.upto sweepJustSpec)) sweepJustUptoCard
end Rows
end Go.Proofs.YtjoejjhgneccgaaGreatDoor
