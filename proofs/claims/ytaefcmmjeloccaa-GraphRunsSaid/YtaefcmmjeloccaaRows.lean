/-
  No cell of these rows narrows 'for every input' (looked for: loops, veiled, ifaces, maps, wideKeys, modest, calm, conditions, laid).
  DERIVED. THE GIVEN ROWS OF THIS SEAT. 3 by the template 'for every input the law returns true; each argument reads behind the call as it read before'; 0 by the template 'total and deterministic' (their statements: YtaefcmmjeloccaaTotals.lean).
  GIVEN WITH THE SEED: the statements are not yours to turn. If you find one false, say at which input.
  Laid BY PROGRAM, IN A SANDBOX (cutbox-rows.mjs): the forced cells as the released guide's own fill.sh prints them over the translation 3b9babf4c99be06f… (all of the seat's roots in one cut). By AI agents, Wed Nov 11 2026. No macro, syntax, notation, axiom, sorry.
-/
import Derived.Test.YtaefcmmjeloccaaChecked
import GoSem.Claim
import GoSem.ClaimJoined
import GoSem.ClaimMapViews
import Derived.JoinedTies
import Derived.KernelRfl
namespace Go.Proofs.Ytaefcmmjeloccaa
/- THE CELL 'sum', in the pinned program and in every row, IS THE sha256 OF THE DUMP (.gsa) THAT YtaefcmmjeloccaaProg.lean LOADS. Nothing in Lean hashes anything: it is a label: what it is worth is what the hold of that sum in a sandbox is worth. -/
noncomputable def Try.pinned : Pinned := { name := "ytaefcmmjeloccaa", sum := "3b9babf4c99be06fc88069100bdf3867069f14aa51fbaa68df4cb7e4eae66b94", checked := Try.checked }
namespace Rows
def none {H : Type} : Left H := { results := [], args := [] }

/-- 'scutagelaw25.GraphRuns': WHATEVER THE INPUT: true; the input reads as it did. -/
def graphRunsSpec : ChangeSpec := { name := "graphRuns", fn := fun _ => fun
  | [d1, d2, d3] => { results := [.lit (.bool true)], args := [d1, d2, d3] }
  | _ => none }
def graphRunsRow : OpenClaim := { program := "ytaefcmmjeloccaa", sum := "3b9babf4c99be06fc88069100bdf3867069f14aa51fbaa68df4cb7e4eae66b94", func := "scutage/scutagelaw25.GraphRuns", spec := "graphRuns", unfollowed := true, recurses := true, apart := false }
def GraphRunsSaid : Prop := graphRunsRow.holds Try.pinned (OpenSpec.ofChange graphRunsSpec)

/-- ITS FALSE NEIGHBOUR: 'it returns false'. Refute it at one input. -/
def graphRunsWrong : ChangeSpec := { name := "graphRuns", fn := fun _ => fun
  | [d1, d2, d3] => { results := [.lit (.bool false)], args := [d1, d2, d3] }
  | _ => none }
def GraphRunsWrongFalsely : Prop := graphRunsRow.holds Try.pinned (OpenSpec.ofChange graphRunsWrong)

/-- 'scutagelaw25.GraphRefuses': WHATEVER THE INPUT: true; the input reads as it did. -/
def graphRefusesSpec : ChangeSpec := { name := "graphRefuses", fn := fun _ => fun
  | [d1, d2, d3] => { results := [.lit (.bool true)], args := [d1, d2, d3] }
  | _ => none }
def graphRefusesRow : OpenClaim := { program := "ytaefcmmjeloccaa", sum := "3b9babf4c99be06fc88069100bdf3867069f14aa51fbaa68df4cb7e4eae66b94", func := "scutage/scutagelaw25.GraphRefuses", spec := "graphRefuses", unfollowed := true, recurses := true, apart := false }
def GraphRefusesSaid : Prop := graphRefusesRow.holds Try.pinned (OpenSpec.ofChange graphRefusesSpec)

/-- ITS FALSE NEIGHBOUR: 'it returns false'. Refute it at one input. -/
def graphRefusesWrong : ChangeSpec := { name := "graphRefuses", fn := fun _ => fun
  | [d1, d2, d3] => { results := [.lit (.bool false)], args := [d1, d2, d3] }
  | _ => none }
def GraphRefusesWrongFalsely : Prop := graphRefusesRow.holds Try.pinned (OpenSpec.ofChange graphRefusesWrong)

/-- 'scutagelaw25.GraphClones': WHATEVER THE INPUT: true; the input reads as it did. -/
def graphClonesSpec : ChangeSpec := { name := "graphClones", fn := fun _ => fun
  | [d1, d2, d3, d4] => { results := [.lit (.bool true)], args := [d1, d2, d3, d4] }
  | _ => none }
def graphClonesRow : OpenClaim := { program := "ytaefcmmjeloccaa", sum := "3b9babf4c99be06fc88069100bdf3867069f14aa51fbaa68df4cb7e4eae66b94", func := "scutage/scutagelaw25.GraphClones", spec := "graphClones", unfollowed := true, recurses := true, apart := false }
def GraphClonesSaid : Prop := graphClonesRow.holds Try.pinned (OpenSpec.ofChange graphClonesSpec)

/-- ITS FALSE NEIGHBOUR: 'it returns false'. Refute it at one input. -/
def graphClonesWrong : ChangeSpec := { name := "graphClones", fn := fun _ => fun
  | [d1, d2, d3, d4] => { results := [.lit (.bool false)], args := [d1, d2, d3, d4] }
  | _ => none }
def GraphClonesWrongFalsely : Prop := graphClonesRow.holds Try.pinned (OpenSpec.ofChange graphClonesWrong)

/- THE SECOND FORM. 'bulk': how many values and letters a reading holds, each counted each time it is reached (what is shared counts as often as it is met; a slice's spare places count too). A statement '..UptoSaid' is the law's where the arguments, and the package variables that the reading takes, are together of bulk at most 1048576: NARROWER than '..Said'. Prove '..Said' where nothing that the law and all that it calls make is longer than what came in: it says more and counts as full. Else prove '..UptoSaid'. A law counts once. -/
mutual
def uptoBulk {H : Type} : DataW H → Nat
  | .lit (.string bytes) => bytes.length + 1
  | .lit _ => 1
  | .nil => 1
  | .ptr d => uptoBulk d + 1
  | .slice elems spare => uptoBulkAll elems + uptoBulkAll spare + 1
  | .agg parts => uptoBulkAll parts + 1
  | .iface _ d => uptoBulk d + 1
  | .map entries => uptoBulkEntries entries + 1
  | .held _ => 1
def uptoBulkAll {H : Type} : List (DataW H) → Nat
  | [] => 0
  | d :: r => uptoBulk d + uptoBulkAll r
def uptoBulkEntries {H : Type} : List (Lit × DataW H) → Nat
  | [] => 0
  | x :: r => uptoBulkEntry x + uptoBulkEntries r
def uptoBulkEntry {H : Type} : Lit × DataW H → Nat
  | (.string bytes, d) => bytes.length + uptoBulk d + 1
  | (_, d) => uptoBulk d + 1
 end
def uptoSmall : (H : Type) → List (DataW H) → Bool := fun _ ds => decide (uptoBulkAll ds ≤ 1048576)
def OpenSpec.upto (s : _root_.Go.ChangeSpec) : _root_.Go.OpenSpec := { _root_.Go.OpenSpec.ofChange s with cond := some uptoSmall }

/-- 'scutagelaw25.GraphRuns', WHERE WHAT IT READS IS OF BULK AT MOST 1048576: true; the input reads as it did. -/
def graphRunsUptoRow : OpenClaim := { program := "ytaefcmmjeloccaa", sum := "3b9babf4c99be06fc88069100bdf3867069f14aa51fbaa68df4cb7e4eae66b94", func := "scutage/scutagelaw25.GraphRuns", spec := "graphRuns", unfollowed := true, recurses := true, apart := false, narrowed := true }
def GraphRunsUptoSaid : Prop := graphRunsUptoRow.holds Try.pinned (OpenSpec.upto graphRunsSpec)

/-- 'scutagelaw25.GraphRefuses', WHERE WHAT IT READS IS OF BULK AT MOST 1048576: true; the input reads as it did. -/
def graphRefusesUptoRow : OpenClaim := { program := "ytaefcmmjeloccaa", sum := "3b9babf4c99be06fc88069100bdf3867069f14aa51fbaa68df4cb7e4eae66b94", func := "scutage/scutagelaw25.GraphRefuses", spec := "graphRefuses", unfollowed := true, recurses := true, apart := false, narrowed := true }
def GraphRefusesUptoSaid : Prop := graphRefusesUptoRow.holds Try.pinned (OpenSpec.upto graphRefusesSpec)

/-- 'scutagelaw25.GraphClones', WHERE WHAT IT READS IS OF BULK AT MOST 1048576: true; the input reads as it did. -/
def graphClonesUptoRow : OpenClaim := { program := "ytaefcmmjeloccaa", sum := "3b9babf4c99be06fc88069100bdf3867069f14aa51fbaa68df4cb7e4eae66b94", func := "scutage/scutagelaw25.GraphClones", spec := "graphClones", unfollowed := true, recurses := true, apart := false, narrowed := true }
def GraphClonesUptoSaid : Prop := graphClonesUptoRow.holds Try.pinned (OpenSpec.upto graphClonesSpec)

end Rows
end Go.Proofs.Ytaefcmmjeloccaa
