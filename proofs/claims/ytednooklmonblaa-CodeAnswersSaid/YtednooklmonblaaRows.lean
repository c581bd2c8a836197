/-
  No cell of these rows narrows 'for every input' (looked for: loops, veiled, ifaces, maps, wideKeys, modest, calm, conditions, laid).
  DERIVED. THE GIVEN ROWS OF THIS SEAT. 9 by the template 'for every input the law returns true; each argument reads behind the call as it read before'; 0 by the template 'total and deterministic' (their statements: YtednooklmonblaaTotals.lean).
  GIVEN WITH THE SEED: the statements are not yours to turn. If you find one false, say at which input.
  Laid BY PROGRAM, IN A SANDBOX (cutbox-rows.mjs): the forced cells as the released guide's own fill.sh prints them over the translation 4b63b7263ec1e11a… (all of the seat's roots in one cut). By AI agents, Wed Nov 11 2026. No macro, syntax, notation, axiom, sorry.
-/
import Derived.Test.YtednooklmonblaaChecked
import GoSem.Claim
import GoSem.ClaimJoined
import GoSem.ClaimMapViews
import Derived.JoinedTies
import Derived.KernelRfl
namespace Go.Proofs.Ytednooklmonblaa
/- THE CELL 'sum', in the pinned program and in every row, IS THE sha256 OF THE DUMP (.gsa) THAT YtednooklmonblaaProg.lean LOADS. Nothing in Lean hashes anything: it is a label: what it is worth is what the hold of that sum in a sandbox is worth. -/
noncomputable def Try.pinned : Pinned := { name := "ytednooklmonblaa", sum := "4b63b7263ec1e11aa36ba607e3a6e8a918f5175310c3f04ed65b80f5dde4cd25", checked := Try.checked }
namespace Rows
def none {H : Type} : Left H := { results := [], args := [] }

/-- 'scutagelaw02.ConfigChecks': WHATEVER THE INPUT: true; the input reads as it did. -/
def configChecksSpec : ChangeSpec := { name := "configChecks", fn := fun _ => fun
  | [d] => { results := [.lit (.bool true)], args := [d] }
  | _ => none }
def configChecksRow : OpenClaim := { program := "ytednooklmonblaa", sum := "4b63b7263ec1e11aa36ba607e3a6e8a918f5175310c3f04ed65b80f5dde4cd25", func := "scutage/scutagelaw02.ConfigChecks", spec := "configChecks", apart := false }
def ConfigChecksSaid : Prop := configChecksRow.holds Try.pinned (OpenSpec.ofChange configChecksSpec)

/-- ITS FALSE NEIGHBOUR: 'it returns false'. Refute it at one input. -/
def configChecksWrong : ChangeSpec := { name := "configChecks", fn := fun _ => fun
  | [d] => { results := [.lit (.bool false)], args := [d] }
  | _ => none }
def ConfigChecksWrongFalsely : Prop := configChecksRow.holds Try.pinned (OpenSpec.ofChange configChecksWrong)

/-- 'scutagelaw02.ConfigMost': WHATEVER THE INPUT: true; the input reads as it did. -/
def configMostSpec : ChangeSpec := { name := "configMost", fn := fun _ => fun
  | [d] => { results := [.lit (.bool true)], args := [d] }
  | _ => none }
def configMostRow : OpenClaim := { program := "ytednooklmonblaa", sum := "4b63b7263ec1e11aa36ba607e3a6e8a918f5175310c3f04ed65b80f5dde4cd25", func := "scutage/scutagelaw02.ConfigMost", spec := "configMost", apart := false }
def ConfigMostSaid : Prop := configMostRow.holds Try.pinned (OpenSpec.ofChange configMostSpec)

/-- ITS FALSE NEIGHBOUR: 'it returns false'. Refute it at one input. -/
def configMostWrong : ChangeSpec := { name := "configMost", fn := fun _ => fun
  | [d] => { results := [.lit (.bool false)], args := [d] }
  | _ => none }
def ConfigMostWrongFalsely : Prop := configMostRow.holds Try.pinned (OpenSpec.ofChange configMostWrong)

/-- 'scutagelaw02.ConfigWrites': WHATEVER THE INPUT: true; the input reads as it did. -/
def configWritesSpec : ChangeSpec := { name := "configWrites", fn := fun _ => fun
  | [d] => { results := [.lit (.bool true)], args := [d] }
  | _ => none }
def configWritesRow : OpenClaim := { program := "ytednooklmonblaa", sum := "4b63b7263ec1e11aa36ba607e3a6e8a918f5175310c3f04ed65b80f5dde4cd25", func := "scutage/scutagelaw02.ConfigWrites", spec := "configWrites", apart := false }
def ConfigWritesSaid : Prop := configWritesRow.holds Try.pinned (OpenSpec.ofChange configWritesSpec)

/-- ITS FALSE NEIGHBOUR: 'it returns false'. Refute it at one input. -/
def configWritesWrong : ChangeSpec := { name := "configWrites", fn := fun _ => fun
  | [d] => { results := [.lit (.bool false)], args := [d] }
  | _ => none }
def ConfigWritesWrongFalsely : Prop := configWritesRow.holds Try.pinned (OpenSpec.ofChange configWritesWrong)

/-- 'scutagelaw02.ConfigBack': WHATEVER THE INPUT: true; the input reads as it did. -/
def configBackSpec : ChangeSpec := { name := "configBack", fn := fun _ => fun
  | [d1, d2] => { results := [.lit (.bool true)], args := [d1, d2] }
  | _ => none }
def configBackRow : OpenClaim := { program := "ytednooklmonblaa", sum := "4b63b7263ec1e11aa36ba607e3a6e8a918f5175310c3f04ed65b80f5dde4cd25", func := "scutage/scutagelaw02.ConfigBack", spec := "configBack", apart := false }
def ConfigBackSaid : Prop := configBackRow.holds Try.pinned (OpenSpec.ofChange configBackSpec)

/-- ITS FALSE NEIGHBOUR: 'it returns false'. Refute it at one input. -/
def configBackWrong : ChangeSpec := { name := "configBack", fn := fun _ => fun
  | [d1, d2] => { results := [.lit (.bool false)], args := [d1, d2] }
  | _ => none }
def ConfigBackWrongFalsely : Prop := configBackRow.holds Try.pinned (OpenSpec.ofChange configBackWrong)

/-- 'scutagelaw24.CodeChecks': WHATEVER THE INPUT: true; the input reads as it did. -/
def codeChecksSpec : ChangeSpec := { name := "codeChecks", fn := fun _ => fun
  | [d] => { results := [.lit (.bool true)], args := [d] }
  | _ => none }
def codeChecksRow : OpenClaim := { program := "ytednooklmonblaa", sum := "4b63b7263ec1e11aa36ba607e3a6e8a918f5175310c3f04ed65b80f5dde4cd25", func := "scutage/scutagelaw24.CodeChecks", spec := "codeChecks", apart := false }
def CodeChecksSaid : Prop := codeChecksRow.holds Try.pinned (OpenSpec.ofChange codeChecksSpec)

/-- ITS FALSE NEIGHBOUR: 'it returns false'. Refute it at one input. -/
def codeChecksWrong : ChangeSpec := { name := "codeChecks", fn := fun _ => fun
  | [d] => { results := [.lit (.bool false)], args := [d] }
  | _ => none }
def CodeChecksWrongFalsely : Prop := codeChecksRow.holds Try.pinned (OpenSpec.ofChange codeChecksWrong)

/-- 'scutagelaw24.CodeReads': WHATEVER THE INPUT: true; the input reads as it did. -/
def codeReadsSpec : ChangeSpec := { name := "codeReads", fn := fun _ => fun
  | [d] => { results := [.lit (.bool true)], args := [d] }
  | _ => none }
def codeReadsRow : OpenClaim := { program := "ytednooklmonblaa", sum := "4b63b7263ec1e11aa36ba607e3a6e8a918f5175310c3f04ed65b80f5dde4cd25", func := "scutage/scutagelaw24.CodeReads", spec := "codeReads", apart := false }
def CodeReadsSaid : Prop := codeReadsRow.holds Try.pinned (OpenSpec.ofChange codeReadsSpec)

/-- ITS FALSE NEIGHBOUR: 'it returns false'. Refute it at one input. -/
def codeReadsWrong : ChangeSpec := { name := "codeReads", fn := fun _ => fun
  | [d] => { results := [.lit (.bool false)], args := [d] }
  | _ => none }
def CodeReadsWrongFalsely : Prop := codeReadsRow.holds Try.pinned (OpenSpec.ofChange codeReadsWrong)

/-- 'scutagelaw24.CodeAnswers': WHATEVER THE INPUT: true; the input reads as it did. -/
def codeAnswersSpec : ChangeSpec := { name := "codeAnswers", fn := fun _ => fun
  | [d1, d2] => { results := [.lit (.bool true)], args := [d1, d2] }
  | _ => none }
def codeAnswersRow : OpenClaim := { program := "ytednooklmonblaa", sum := "4b63b7263ec1e11aa36ba607e3a6e8a918f5175310c3f04ed65b80f5dde4cd25", func := "scutage/scutagelaw24.CodeAnswers", spec := "codeAnswers", apart := false }
def CodeAnswersSaid : Prop := codeAnswersRow.holds Try.pinned (OpenSpec.ofChange codeAnswersSpec)

/-- ITS FALSE NEIGHBOUR: 'it returns false'. Refute it at one input. -/
def codeAnswersWrong : ChangeSpec := { name := "codeAnswers", fn := fun _ => fun
  | [d1, d2] => { results := [.lit (.bool false)], args := [d1, d2] }
  | _ => none }
def CodeAnswersWrongFalsely : Prop := codeAnswersRow.holds Try.pinned (OpenSpec.ofChange codeAnswersWrong)

/-- 'scutagelaw43.BoundTells': WHATEVER THE INPUT: true; the input reads as it did. -/
def boundTellsSpec : ChangeSpec := { name := "boundTells", fn := fun _ => fun
  | [d1, d2] => { results := [.lit (.bool true)], args := [d1, d2] }
  | _ => none }
def boundTellsRow : OpenClaim := { program := "ytednooklmonblaa", sum := "4b63b7263ec1e11aa36ba607e3a6e8a918f5175310c3f04ed65b80f5dde4cd25", func := "scutage/scutagelaw43.BoundTells", spec := "boundTells", apart := false }
def BoundTellsSaid : Prop := boundTellsRow.holds Try.pinned (OpenSpec.ofChange boundTellsSpec)

/-- ITS FALSE NEIGHBOUR: 'it returns false'. Refute it at one input. -/
def boundTellsWrong : ChangeSpec := { name := "boundTells", fn := fun _ => fun
  | [d1, d2] => { results := [.lit (.bool false)], args := [d1, d2] }
  | _ => none }
def BoundTellsWrongFalsely : Prop := boundTellsRow.holds Try.pinned (OpenSpec.ofChange boundTellsWrong)

/-- 'scutagelaw43.BoundMore': WHATEVER THE INPUT: true; the input reads as it did. -/
def boundMoreSpec : ChangeSpec := { name := "boundMore", fn := fun _ => fun
  | [d1, d2, d3] => { results := [.lit (.bool true)], args := [d1, d2, d3] }
  | _ => none }
def boundMoreRow : OpenClaim := { program := "ytednooklmonblaa", sum := "4b63b7263ec1e11aa36ba607e3a6e8a918f5175310c3f04ed65b80f5dde4cd25", func := "scutage/scutagelaw43.BoundMore", spec := "boundMore", apart := false }
def BoundMoreSaid : Prop := boundMoreRow.holds Try.pinned (OpenSpec.ofChange boundMoreSpec)

/-- ITS FALSE NEIGHBOUR: 'it returns false'. Refute it at one input. -/
def boundMoreWrong : ChangeSpec := { name := "boundMore", fn := fun _ => fun
  | [d1, d2, d3] => { results := [.lit (.bool false)], args := [d1, d2, d3] }
  | _ => none }
def BoundMoreWrongFalsely : Prop := boundMoreRow.holds Try.pinned (OpenSpec.ofChange boundMoreWrong)

/- THE SECOND FORM. 'bulk': how many values and letters a reading holds, each counted each time it is reached (what is shared counts as often as it is met; a slice's spare places count too). A statement '..UptoSaid' is the law's where the arguments, and the package variables that the reading takes, are together of bulk at most 1048576: NARROWER than '..Said'. Prove '..Said' where nothing that the law and all that it calls make is longer than what came in: it says more and counts as full. Else prove '..UptoSaid'. A law counts once. -/
mutual
def uptoBulk {H : Type} : DataW H → Nat
  | .lit (.string bytes) => bytes.length + 1
  | .lit _ => 1
  | .nil => 1
  | .ptr d => uptoBulk d + 1
  | .slice elems spare => uptoBulkAll elems + uptoBulkAll spare + 1
  | .agg parts => uptoBulkAll parts + 1
  | .iface _ d => uptoBulk d + 1
  | .map entries => uptoBulkEntries entries + 1
  | .held _ => 1
def uptoBulkAll {H : Type} : List (DataW H) → Nat
  | [] => 0
  | d :: r => uptoBulk d + uptoBulkAll r
def uptoBulkEntries {H : Type} : List (Lit × DataW H) → Nat
  | [] => 0
  | x :: r => uptoBulkEntry x + uptoBulkEntries r
def uptoBulkEntry {H : Type} : Lit × DataW H → Nat
  | (.string bytes, d) => bytes.length + uptoBulk d + 1
  | (_, d) => uptoBulk d + 1
 end
def uptoSmall : (H : Type) → List (DataW H) → Bool := fun _ ds => decide (uptoBulkAll ds ≤ 1048576)
def OpenSpec.upto (s : _root_.Go.ChangeSpec) : _root_.Go.OpenSpec := { _root_.Go.OpenSpec.ofChange s with cond := some uptoSmall }

/-- 'scutagelaw02.ConfigChecks', WHERE WHAT IT READS IS OF BULK AT MOST 1048576: true; the input reads as it did. -/
def configChecksUptoRow : OpenClaim := { program := "ytednooklmonblaa", sum := "4b63b7263ec1e11aa36ba607e3a6e8a918f5175310c3f04ed65b80f5dde4cd25", func := "scutage/scutagelaw02.ConfigChecks", spec := "configChecks", apart := false, narrowed := true }
def ConfigChecksUptoSaid : Prop := configChecksUptoRow.holds Try.pinned (OpenSpec.upto configChecksSpec)

/-- 'scutagelaw02.ConfigMost', WHERE WHAT IT READS IS OF BULK AT MOST 1048576: true; the input reads as it did. -/
def configMostUptoRow : OpenClaim := { program := "ytednooklmonblaa", sum := "4b63b7263ec1e11aa36ba607e3a6e8a918f5175310c3f04ed65b80f5dde4cd25", func := "scutage/scutagelaw02.ConfigMost", spec := "configMost", apart := false, narrowed := true }
def ConfigMostUptoSaid : Prop := configMostUptoRow.holds Try.pinned (OpenSpec.upto configMostSpec)

/-- 'scutagelaw02.ConfigWrites', WHERE WHAT IT READS IS OF BULK AT MOST 1048576: true; the input reads as it did. -/
def configWritesUptoRow : OpenClaim := { program := "ytednooklmonblaa", sum := "4b63b7263ec1e11aa36ba607e3a6e8a918f5175310c3f04ed65b80f5dde4cd25", func := "scutage/scutagelaw02.ConfigWrites", spec := "configWrites", apart := false, narrowed := true }
def ConfigWritesUptoSaid : Prop := configWritesUptoRow.holds Try.pinned (OpenSpec.upto configWritesSpec)

/-- 'scutagelaw02.ConfigBack', WHERE WHAT IT READS IS OF BULK AT MOST 1048576: true; the input reads as it did. -/
def configBackUptoRow : OpenClaim := { program := "ytednooklmonblaa", sum := "4b63b7263ec1e11aa36ba607e3a6e8a918f5175310c3f04ed65b80f5dde4cd25", func := "scutage/scutagelaw02.ConfigBack", spec := "configBack", apart := false, narrowed := true }
def ConfigBackUptoSaid : Prop := configBackUptoRow.holds Try.pinned (OpenSpec.upto configBackSpec)

/-- 'scutagelaw24.CodeChecks', WHERE WHAT IT READS IS OF BULK AT MOST 1048576: true; the input reads as it did. -/
def codeChecksUptoRow : OpenClaim := { program := "ytednooklmonblaa", sum := "4b63b7263ec1e11aa36ba607e3a6e8a918f5175310c3f04ed65b80f5dde4cd25", func := "scutage/scutagelaw24.CodeChecks", spec := "codeChecks", apart := false, narrowed := true }
def CodeChecksUptoSaid : Prop := codeChecksUptoRow.holds Try.pinned (OpenSpec.upto codeChecksSpec)

/-- 'scutagelaw24.CodeReads', WHERE WHAT IT READS IS OF BULK AT MOST 1048576: true; the input reads as it did. -/
def codeReadsUptoRow : OpenClaim := { program := "ytednooklmonblaa", sum := "4b63b7263ec1e11aa36ba607e3a6e8a918f5175310c3f04ed65b80f5dde4cd25", func := "scutage/scutagelaw24.CodeReads", spec := "codeReads", apart := false, narrowed := true }
def CodeReadsUptoSaid : Prop := codeReadsUptoRow.holds Try.pinned (OpenSpec.upto codeReadsSpec)

/-- 'scutagelaw24.CodeAnswers', WHERE WHAT IT READS IS OF BULK AT MOST 1048576: true; the input reads as it did. -/
def codeAnswersUptoRow : OpenClaim := { program := "ytednooklmonblaa", sum := "4b63b7263ec1e11aa36ba607e3a6e8a918f5175310c3f04ed65b80f5dde4cd25", func := "scutage/scutagelaw24.CodeAnswers", spec := "codeAnswers", apart := false, narrowed := true }
def CodeAnswersUptoSaid : Prop := codeAnswersUptoRow.holds Try.pinned (OpenSpec.upto codeAnswersSpec)

/-- 'scutagelaw43.BoundTells', WHERE WHAT IT READS IS OF BULK AT MOST 1048576: true; the input reads as it did. -/
def boundTellsUptoRow : OpenClaim := { program := "ytednooklmonblaa", sum := "4b63b7263ec1e11aa36ba607e3a6e8a918f5175310c3f04ed65b80f5dde4cd25", func := "scutage/scutagelaw43.BoundTells", spec := "boundTells", apart := false, narrowed := true }
def BoundTellsUptoSaid : Prop := boundTellsUptoRow.holds Try.pinned (OpenSpec.upto boundTellsSpec)

/-- 'scutagelaw43.BoundMore', WHERE WHAT IT READS IS OF BULK AT MOST 1048576: true; the input reads as it did. -/
def boundMoreUptoRow : OpenClaim := { program := "ytednooklmonblaa", sum := "4b63b7263ec1e11aa36ba607e3a6e8a918f5175310c3f04ed65b80f5dde4cd25", func := "scutage/scutagelaw43.BoundMore", spec := "boundMore", apart := false, narrowed := true }
def BoundMoreUptoSaid : Prop := boundMoreUptoRow.holds Try.pinned (OpenSpec.upto boundMoreSpec)

end Rows
end Go.Proofs.Ytednooklmonblaa
