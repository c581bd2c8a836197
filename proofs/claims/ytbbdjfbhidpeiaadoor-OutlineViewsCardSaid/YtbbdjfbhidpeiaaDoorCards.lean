/-
  DERIVED. GIVEN WITH THE SEED: THE CARDS: each row of YtbbdjfbhidpeiaaDoorRows.lean that lists a variable, with what it lists TIED to the program's text (the seventh form; the later family's looks); each row that meets fmt, with fmt's text TOLD by the authors' own Lean function (tested against real Go, not proved from fmt's source: count such statements apart). THE CARD IS WHAT COUNTS. Prove the row's statement (the work); the ties are given (YtbbdjfbhidpeiaaDoorTie.lean); close each card by the builder's one call (the guide's Derived/Test/ToyasCard.lean, 'card_holds'). Laid BY PROGRAM, IN A SANDBOX (cutbox-door.mjs). By AI agents, Wed Nov 11 2026. No macro, syntax, notation, axiom, sorry.
-/
import Derived.Test.YtbbdjfbhidpeiaaDoorRows
import GoSem.ClaimSeven
namespace Go.Proofs.YtbbdjfbhidpeiaaDoor
namespace Rows

/-- THE TIED CARD OF 'scutagelaw41.OutlineAnswers'. -/
def outlineAnswersCard : Claim7 := { stood := { row := outlineAnswersRow, standIns := [], harness := (true, "a4ad67b0350999a6b59f9b87f4af055365346a1962ff37bc681b984c89f1d2bb"), looks := false }, kinds := [], alts := [], laidByText := true, laidKinds := [.data, .data, .data], laidTests := true, laidLooks := .later }
def OutlineAnswersCardSaid : Prop := Claim7.holds Tryd.pinned (.plain (OpenSpec.ofChange outlineAnswersSpec)) outlineAnswersCard

/-- THE TIED CARD OF 'scutagelaw41.OutlineViews'. -/
def outlineViewsCard : Claim7 := { stood := { row := outlineViewsRow, standIns := [], harness := (true, "a4ad67b0350999a6b59f9b87f4af055365346a1962ff37bc681b984c89f1d2bb"), looks := false }, kinds := [], alts := [], laidByText := true, laidKinds := [.data, .data, .data], laidTests := true, laidLooks := .later }
def OutlineViewsCardSaid : Prop := Claim7.holds Tryd.pinned (.plain (OpenSpec.ofChange outlineViewsSpec)) outlineViewsCard

/-- THE TIED CARD OF 'scutagelaw41.OutlinePages'. -/
def outlinePagesCard : Claim7 := { stood := { row := outlinePagesRow, standIns := [], harness := (true, "a4ad67b0350999a6b59f9b87f4af055365346a1962ff37bc681b984c89f1d2bb"), looks := false }, kinds := [], alts := [], laidByText := true, laidKinds := [.data, .data, .data], laidTests := true, laidLooks := .later }
def OutlinePagesCardSaid : Prop := Claim7.holds Tryd.pinned (.plain (OpenSpec.ofChange outlinePagesSpec)) outlinePagesCard

/-- THE SECOND FORM's CARD OF 'scutagelaw41.OutlineAnswers'. -/
def outlineAnswersUptoCard : Claim7 := { stood := { row := outlineAnswersUptoRow, standIns := [], harness := (true, "a4ad67b0350999a6b59f9b87f4af055365346a1962ff37bc681b984c89f1d2bb"), looks := false }, kinds := [], alts := [], laidByText := true, laidKinds := [.data, .data, .data], laidTests := true, laidLooks := .later }
def OutlineAnswersUptoCardSaid : Prop := Claim7.holds Tryd.pinned (.plain (OpenSpec.upto outlineAnswersSpec)) outlineAnswersUptoCard

/-- THE SECOND FORM's CARD OF 'scutagelaw41.OutlineViews'. -/
def outlineViewsUptoCard : Claim7 := { stood := { row := outlineViewsUptoRow, standIns := [], harness := (true, "a4ad67b0350999a6b59f9b87f4af055365346a1962ff37bc681b984c89f1d2bb"), looks := false }, kinds := [], alts := [], laidByText := true, laidKinds := [.data, .data, .data], laidTests := true, laidLooks := .later }
def OutlineViewsUptoCardSaid : Prop := Claim7.holds Tryd.pinned (.plain (OpenSpec.upto outlineViewsSpec)) outlineViewsUptoCard

/-- THE SECOND FORM's CARD OF 'scutagelaw41.OutlinePages'. -/
def outlinePagesUptoCard : Claim7 := { stood := { row := outlinePagesUptoRow, standIns := [], harness := (true, "a4ad67b0350999a6b59f9b87f4af055365346a1962ff37bc681b984c89f1d2bb"), looks := false }, kinds := [], alts := [], laidByText := true, laidKinds := [.data, .data, .data], laidTests := true, laidLooks := .later }
def OutlinePagesUptoCardSaid : Prop := Claim7.holds Tryd.pinned (.plain (OpenSpec.upto outlinePagesSpec)) outlinePagesUptoCard
end Rows
end Go.Proofs.YtbbdjfbhidpeiaaDoor
