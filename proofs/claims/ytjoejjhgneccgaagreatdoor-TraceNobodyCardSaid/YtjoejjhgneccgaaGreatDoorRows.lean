/-
  NARROWER THAN 'FOR EVERY INPUT', by the rows' own cells (each row's printed sentence says how): SweepNobody: laid · TraceNobody: laid · TraceRuns: laid · TraceReaches: laid · SweepRuns: laid · StoreNobody: laid · SweepJust: laid.
  DERIVED. THE GIVEN ROWS OF THIS SEAT. 7 by the template 'for every input the law returns true; each argument reads behind the call as it read before'; 0 by the template 'total and deterministic' (their statements: YtjoejjhgneccgaaGreatDoorTotals.lean).
  GIVEN WITH THE SEED: the statements are not yours to turn. If you find one false, say at which input.
  Laid BY PROGRAM, IN A SANDBOX (cutbox-rows.mjs): the forced cells as the released guide's own fill.sh prints them over the translation 8dc44e3f2d5dac62… (all of the seat's roots in one cut). By AI agents, Wed Nov 11 2026. No macro, syntax, notation, axiom, sorry.
-/
import Derived.Test.YtjoejjhgneccgaaGreatDoorChecked
import GoSem.Claim
import GoSem.ClaimJoined
import GoSem.ClaimMapViews
import Derived.JoinedTies
import Derived.KernelRfl
namespace Go.Proofs.YtjoejjhgneccgaaGreatDoor
/- THE CELL 'sum', in the pinned program and in every row, IS THE sha256 OF THE DUMP (.gsa) THAT YtjoejjhgneccgaaGreatDoorProg.lean LOADS. Nothing in Lean hashes anything: it is a label: what it is worth is what the hold of that sum in a sandbox is worth. -/
noncomputable def Tryz.pinned : Pinned := { name := "ytjoejjhgneccgaagreatdoor", sum := "8dc44e3f2d5dac6213d86172bae8bcf87d23d43e66648e74c9be320a78988cfb", checked := Tryz.checked }
namespace Rows
def none {H : Type} : Left H := { results := [], args := [] }

/- WHAT THE LISTED PACKAGE-LEVEL VARIABLES READ AS WHEN THE CALL BEGINS. Each datum BY PROGRAM (the guide's laid-datum.mjs) off the statement by which the dump's own 'gosem.cut.vars' lays the variable. In a bare row this is a premise. The card (YtjoejjhgneccgaaGreatDoorCards.lean) ties it to the program's text. -/
def laid_math_bits_deBruijn64tab {H : Type} : DataW H := .agg [.lit (.int .u8 0), .lit (.int .u8 1), .lit (.int .u8 56), .lit (.int .u8 2), .lit (.int .u8 57), .lit (.int .u8 49), .lit (.int .u8 28), .lit (.int .u8 3), .lit (.int .u8 61), .lit (.int .u8 58), .lit (.int .u8 42), .lit (.int .u8 50), .lit (.int .u8 38), .lit (.int .u8 29), .lit (.int .u8 17), .lit (.int .u8 4), .lit (.int .u8 62), .lit (.int .u8 47), .lit (.int .u8 59), .lit (.int .u8 36), .lit (.int .u8 45), .lit (.int .u8 43), .lit (.int .u8 51), .lit (.int .u8 22), .lit (.int .u8 53), .lit (.int .u8 39), .lit (.int .u8 33), .lit (.int .u8 30), .lit (.int .u8 24), .lit (.int .u8 18), .lit (.int .u8 12), .lit (.int .u8 5), .lit (.int .u8 63), .lit (.int .u8 55), .lit (.int .u8 48), .lit (.int .u8 27), .lit (.int .u8 60), .lit (.int .u8 41), .lit (.int .u8 37), .lit (.int .u8 16), .lit (.int .u8 46), .lit (.int .u8 35), .lit (.int .u8 44), .lit (.int .u8 21), .lit (.int .u8 52), .lit (.int .u8 32), .lit (.int .u8 23), .lit (.int .u8 11), .lit (.int .u8 54), .lit (.int .u8 26), .lit (.int .u8 40), .lit (.int .u8 15), .lit (.int .u8 34), .lit (.int .u8 20), .lit (.int .u8 31), .lit (.int .u8 10), .lit (.int .u8 25), .lit (.int .u8 14), .lit (.int .u8 19), .lit (.int .u8 9), .lit (.int .u8 13), .lit (.int .u8 8), .lit (.int .u8 7), .lit (.int .u8 6)]

/-- 'scutagelaw20.SweepNobody': WHATEVER THE INPUT: true; the input reads as it did. -/
def sweepNobodySpec : ChangeSpec := { name := "sweepNobody", fn := fun _ => fun
  | [d] => { results := [.lit (.bool true)], args := [d] }
  | _ => none }
def sweepNobodyRow : OpenClaim := { program := "ytjoejjhgneccgaagreatdoor", sum := "8dc44e3f2d5dac6213d86172bae8bcf87d23d43e66648e74c9be320a78988cfb", func := "scutage/scutagelaw20.SweepNobody", spec := "sweepNobody", unfollowed := true, recurses := true, named := ["math/bits.deBruijn64tab"], plainKeys := false, apart := false, laid := [("math/bits.deBruijn64tab", laid_math_bits_deBruijn64tab)] }
def SweepNobodySaid : Prop := sweepNobodyRow.holds Tryz.pinned (OpenSpec.ofChange sweepNobodySpec)

/-- ITS FALSE NEIGHBOUR: 'it returns false'. Refute it at one input. -/
def sweepNobodyWrong : ChangeSpec := { name := "sweepNobody", fn := fun _ => fun
  | [d] => { results := [.lit (.bool false)], args := [d] }
  | _ => none }
def SweepNobodyWrongFalsely : Prop := sweepNobodyRow.holds Tryz.pinned (OpenSpec.ofChange sweepNobodyWrong)

/-- 'scutagelaw19.TraceNobody': WHATEVER THE INPUT: true; the input reads as it did. -/
def traceNobodySpec : ChangeSpec := { name := "traceNobody", fn := fun _ => fun
  | [d1, d2] => { results := [.lit (.bool true)], args := [d1, d2] }
  | _ => none }
def traceNobodyRow : OpenClaim := { program := "ytjoejjhgneccgaagreatdoor", sum := "8dc44e3f2d5dac6213d86172bae8bcf87d23d43e66648e74c9be320a78988cfb", func := "scutage/scutagelaw19.TraceNobody", spec := "traceNobody", unfollowed := true, recurses := true, named := ["math/bits.deBruijn64tab"], plainKeys := false, apart := false, laid := [("math/bits.deBruijn64tab", laid_math_bits_deBruijn64tab)] }
def TraceNobodySaid : Prop := traceNobodyRow.holds Tryz.pinned (OpenSpec.ofChange traceNobodySpec)

/-- ITS FALSE NEIGHBOUR: 'it returns false'. Refute it at one input. -/
def traceNobodyWrong : ChangeSpec := { name := "traceNobody", fn := fun _ => fun
  | [d1, d2] => { results := [.lit (.bool false)], args := [d1, d2] }
  | _ => none }
def TraceNobodyWrongFalsely : Prop := traceNobodyRow.holds Tryz.pinned (OpenSpec.ofChange traceNobodyWrong)

/-- 'scutagelaw19.TraceRuns': WHATEVER THE INPUT: true; the input reads as it did. -/
def traceRunsSpec : ChangeSpec := { name := "traceRuns", fn := fun _ => fun
  | [d1, d2, d3, d4] => { results := [.lit (.bool true)], args := [d1, d2, d3, d4] }
  | _ => none }
def traceRunsRow : OpenClaim := { program := "ytjoejjhgneccgaagreatdoor", sum := "8dc44e3f2d5dac6213d86172bae8bcf87d23d43e66648e74c9be320a78988cfb", func := "scutage/scutagelaw19.TraceRuns", spec := "traceRuns", unfollowed := true, recurses := true, named := ["math/bits.deBruijn64tab"], plainKeys := false, apart := false, laid := [("math/bits.deBruijn64tab", laid_math_bits_deBruijn64tab)] }
def TraceRunsSaid : Prop := traceRunsRow.holds Tryz.pinned (OpenSpec.ofChange traceRunsSpec)

/-- ITS FALSE NEIGHBOUR: 'it returns false'. Refute it at one input. -/
def traceRunsWrong : ChangeSpec := { name := "traceRuns", fn := fun _ => fun
  | [d1, d2, d3, d4] => { results := [.lit (.bool false)], args := [d1, d2, d3, d4] }
  | _ => none }
def TraceRunsWrongFalsely : Prop := traceRunsRow.holds Tryz.pinned (OpenSpec.ofChange traceRunsWrong)

/-- 'scutagelaw19.TraceReaches': WHATEVER THE INPUT: true; the input reads as it did. -/
def traceReachesSpec : ChangeSpec := { name := "traceReaches", fn := fun _ => fun
  | [d1, d2, d3, d4, d5] => { results := [.lit (.bool true)], args := [d1, d2, d3, d4, d5] }
  | _ => none }
def traceReachesRow : OpenClaim := { program := "ytjoejjhgneccgaagreatdoor", sum := "8dc44e3f2d5dac6213d86172bae8bcf87d23d43e66648e74c9be320a78988cfb", func := "scutage/scutagelaw19.TraceReaches", spec := "traceReaches", unfollowed := true, recurses := true, named := ["math/bits.deBruijn64tab"], plainKeys := false, apart := false, laid := [("math/bits.deBruijn64tab", laid_math_bits_deBruijn64tab)] }
def TraceReachesSaid : Prop := traceReachesRow.holds Tryz.pinned (OpenSpec.ofChange traceReachesSpec)

/-- ITS FALSE NEIGHBOUR: 'it returns false'. Refute it at one input. -/
def traceReachesWrong : ChangeSpec := { name := "traceReaches", fn := fun _ => fun
  | [d1, d2, d3, d4, d5] => { results := [.lit (.bool false)], args := [d1, d2, d3, d4, d5] }
  | _ => none }
def TraceReachesWrongFalsely : Prop := traceReachesRow.holds Tryz.pinned (OpenSpec.ofChange traceReachesWrong)

/-- 'scutagelaw20.SweepRuns': WHATEVER THE INPUT: true; the input reads as it did. -/
def sweepRunsSpec : ChangeSpec := { name := "sweepRuns", fn := fun _ => fun
  | [d1, d2] => { results := [.lit (.bool true)], args := [d1, d2] }
  | _ => none }
def sweepRunsRow : OpenClaim := { program := "ytjoejjhgneccgaagreatdoor", sum := "8dc44e3f2d5dac6213d86172bae8bcf87d23d43e66648e74c9be320a78988cfb", func := "scutage/scutagelaw20.SweepRuns", spec := "sweepRuns", unfollowed := true, recurses := true, named := ["math/bits.deBruijn64tab"], plainKeys := false, apart := false, laid := [("math/bits.deBruijn64tab", laid_math_bits_deBruijn64tab)] }
def SweepRunsSaid : Prop := sweepRunsRow.holds Tryz.pinned (OpenSpec.ofChange sweepRunsSpec)

/-- ITS FALSE NEIGHBOUR: 'it returns false'. Refute it at one input. -/
def sweepRunsWrong : ChangeSpec := { name := "sweepRuns", fn := fun _ => fun
  | [d1, d2] => { results := [.lit (.bool false)], args := [d1, d2] }
  | _ => none }
def SweepRunsWrongFalsely : Prop := sweepRunsRow.holds Tryz.pinned (OpenSpec.ofChange sweepRunsWrong)

/-- 'scutagelaw13.StoreNobody': WHATEVER THE INPUT: true; the input reads as it did. -/
def storeNobodySpec : ChangeSpec := { name := "storeNobody", fn := fun _ => fun
  | [d1, d2] => { results := [.lit (.bool true)], args := [d1, d2] }
  | _ => none }
def storeNobodyRow : OpenClaim := { program := "ytjoejjhgneccgaagreatdoor", sum := "8dc44e3f2d5dac6213d86172bae8bcf87d23d43e66648e74c9be320a78988cfb", func := "scutage/scutagelaw13.StoreNobody", spec := "storeNobody", unfollowed := true, recurses := true, named := ["math/bits.deBruijn64tab"], plainKeys := false, apart := false, laid := [("math/bits.deBruijn64tab", laid_math_bits_deBruijn64tab)] }
def StoreNobodySaid : Prop := storeNobodyRow.holds Tryz.pinned (OpenSpec.ofChange storeNobodySpec)

/-- ITS FALSE NEIGHBOUR: 'it returns false'. Refute it at one input. -/
def storeNobodyWrong : ChangeSpec := { name := "storeNobody", fn := fun _ => fun
  | [d1, d2] => { results := [.lit (.bool false)], args := [d1, d2] }
  | _ => none }
def StoreNobodyWrongFalsely : Prop := storeNobodyRow.holds Tryz.pinned (OpenSpec.ofChange storeNobodyWrong)

/-- 'scutagelaw20.SweepJust': WHATEVER THE INPUT: true; the input reads as it did. -/
def sweepJustSpec : ChangeSpec := { name := "sweepJust", fn := fun _ => fun
  | [d1, d2] => { results := [.lit (.bool true)], args := [d1, d2] }
  | _ => none }
def sweepJustRow : OpenClaim := { program := "ytjoejjhgneccgaagreatdoor", sum := "8dc44e3f2d5dac6213d86172bae8bcf87d23d43e66648e74c9be320a78988cfb", func := "scutage/scutagelaw20.SweepJust", spec := "sweepJust", unfollowed := true, recurses := true, named := ["math/bits.deBruijn64tab"], plainKeys := false, apart := false, laid := [("math/bits.deBruijn64tab", laid_math_bits_deBruijn64tab)] }
def SweepJustSaid : Prop := sweepJustRow.holds Tryz.pinned (OpenSpec.ofChange sweepJustSpec)

/-- ITS FALSE NEIGHBOUR: 'it returns false'. Refute it at one input. -/
def sweepJustWrong : ChangeSpec := { name := "sweepJust", fn := fun _ => fun
  | [d1, d2] => { results := [.lit (.bool false)], args := [d1, d2] }
  | _ => none }
def SweepJustWrongFalsely : Prop := sweepJustRow.holds Tryz.pinned (OpenSpec.ofChange sweepJustWrong)

/- THE SECOND FORM. 'bulk': how many values and letters a reading holds, each counted each time it is reached (what is shared counts as often as it is met; a slice's spare places count too). A statement '..UptoSaid' is the law's where the arguments, and the package variables that the reading takes, are together of bulk at most 1048576: NARROWER than '..Said'. Prove '..Said' where nothing that the law and all that it calls make is longer than what came in: it says more and counts as full. Else prove '..UptoSaid'. A law counts once. -/
mutual
def uptoBulk {H : Type} : DataW H → Nat
  | .lit (.string bytes) => bytes.length + 1
  | .lit _ => 1
  | .nil => 1
  | .ptr d => uptoBulk d + 1
  | .slice elems spare => uptoBulkAll elems + uptoBulkAll spare + 1
  | .agg parts => uptoBulkAll parts + 1
  | .iface _ d => uptoBulk d + 1
  | .map entries => uptoBulkEntries entries + 1
  | .held _ => 1
def uptoBulkAll {H : Type} : List (DataW H) → Nat
  | [] => 0
  | d :: r => uptoBulk d + uptoBulkAll r
def uptoBulkEntries {H : Type} : List (Lit × DataW H) → Nat
  | [] => 0
  | x :: r => uptoBulkEntry x + uptoBulkEntries r
def uptoBulkEntry {H : Type} : Lit × DataW H → Nat
  | (.string bytes, d) => bytes.length + uptoBulk d + 1
  | (_, d) => uptoBulk d + 1
 end
def uptoSmall : (H : Type) → List (DataW H) → Bool := fun _ ds => decide (uptoBulkAll ds ≤ 1048576)
def OpenSpec.upto (s : _root_.Go.ChangeSpec) : _root_.Go.OpenSpec := { _root_.Go.OpenSpec.ofChange s with cond := some uptoSmall }

/-- 'scutagelaw20.SweepNobody', WHERE WHAT IT READS IS OF BULK AT MOST 1048576: true; the input reads as it did. -/
def sweepNobodyUptoRow : OpenClaim := { program := "ytjoejjhgneccgaagreatdoor", sum := "8dc44e3f2d5dac6213d86172bae8bcf87d23d43e66648e74c9be320a78988cfb", func := "scutage/scutagelaw20.SweepNobody", spec := "sweepNobody", unfollowed := true, recurses := true, named := ["math/bits.deBruijn64tab"], plainKeys := false, apart := false, laid := [("math/bits.deBruijn64tab", laid_math_bits_deBruijn64tab)], narrowed := true }
def SweepNobodyUptoSaid : Prop := sweepNobodyUptoRow.holds Tryz.pinned (OpenSpec.upto sweepNobodySpec)

/-- 'scutagelaw19.TraceNobody', WHERE WHAT IT READS IS OF BULK AT MOST 1048576: true; the input reads as it did. -/
def traceNobodyUptoRow : OpenClaim := { program := "ytjoejjhgneccgaagreatdoor", sum := "8dc44e3f2d5dac6213d86172bae8bcf87d23d43e66648e74c9be320a78988cfb", func := "scutage/scutagelaw19.TraceNobody", spec := "traceNobody", unfollowed := true, recurses := true, named := ["math/bits.deBruijn64tab"], plainKeys := false, apart := false, laid := [("math/bits.deBruijn64tab", laid_math_bits_deBruijn64tab)], narrowed := true }
def TraceNobodyUptoSaid : Prop := traceNobodyUptoRow.holds Tryz.pinned (OpenSpec.upto traceNobodySpec)

/-- 'scutagelaw19.TraceRuns', WHERE WHAT IT READS IS OF BULK AT MOST 1048576: true; the input reads as it did. -/
def traceRunsUptoRow : OpenClaim := { program := "ytjoejjhgneccgaagreatdoor", sum := "8dc44e3f2d5dac6213d86172bae8bcf87d23d43e66648e74c9be320a78988cfb", func := "scutage/scutagelaw19.TraceRuns", spec := "traceRuns", unfollowed := true, recurses := true, named := ["math/bits.deBruijn64tab"], plainKeys := false, apart := false, laid := [("math/bits.deBruijn64tab", laid_math_bits_deBruijn64tab)], narrowed := true }
def TraceRunsUptoSaid : Prop := traceRunsUptoRow.holds Tryz.pinned (OpenSpec.upto traceRunsSpec)

/-- 'scutagelaw19.TraceReaches', WHERE WHAT IT READS IS OF BULK AT MOST 1048576: true; the input reads as it did. -/
def traceReachesUptoRow : OpenClaim := { program := "ytjoejjhgneccgaagreatdoor", sum := "8dc44e3f2d5dac6213d86172bae8bcf87d23d43e66648e74c9be320a78988cfb", func := "scutage/scutagelaw19.TraceReaches", spec := "traceReaches", unfollowed := true, recurses := true, named := ["math/bits.deBruijn64tab"], plainKeys := false, apart := false, laid := [("math/bits.deBruijn64tab", laid_math_bits_deBruijn64tab)], narrowed := true }
def TraceReachesUptoSaid : Prop := traceReachesUptoRow.holds Tryz.pinned (OpenSpec.upto traceReachesSpec)

/-- 'scutagelaw20.SweepRuns', WHERE WHAT IT READS IS OF BULK AT MOST 1048576: true; the input reads as it did. -/
def sweepRunsUptoRow : OpenClaim := { program := "ytjoejjhgneccgaagreatdoor", sum := "8dc44e3f2d5dac6213d86172bae8bcf87d23d43e66648e74c9be320a78988cfb", func := "scutage/scutagelaw20.SweepRuns", spec := "sweepRuns", unfollowed := true, recurses := true, named := ["math/bits.deBruijn64tab"], plainKeys := false, apart := false, laid := [("math/bits.deBruijn64tab", laid_math_bits_deBruijn64tab)], narrowed := true }
def SweepRunsUptoSaid : Prop := sweepRunsUptoRow.holds Tryz.pinned (OpenSpec.upto sweepRunsSpec)

/-- 'scutagelaw13.StoreNobody', WHERE WHAT IT READS IS OF BULK AT MOST 1048576: true; the input reads as it did. -/
def storeNobodyUptoRow : OpenClaim := { program := "ytjoejjhgneccgaagreatdoor", sum := "8dc44e3f2d5dac6213d86172bae8bcf87d23d43e66648e74c9be320a78988cfb", func := "scutage/scutagelaw13.StoreNobody", spec := "storeNobody", unfollowed := true, recurses := true, named := ["math/bits.deBruijn64tab"], plainKeys := false, apart := false, laid := [("math/bits.deBruijn64tab", laid_math_bits_deBruijn64tab)], narrowed := true }
def StoreNobodyUptoSaid : Prop := storeNobodyUptoRow.holds Tryz.pinned (OpenSpec.upto storeNobodySpec)

/-- 'scutagelaw20.SweepJust', WHERE WHAT IT READS IS OF BULK AT MOST 1048576: true; the input reads as it did. -/
def sweepJustUptoRow : OpenClaim := { program := "ytjoejjhgneccgaagreatdoor", sum := "8dc44e3f2d5dac6213d86172bae8bcf87d23d43e66648e74c9be320a78988cfb", func := "scutage/scutagelaw20.SweepJust", spec := "sweepJust", unfollowed := true, recurses := true, named := ["math/bits.deBruijn64tab"], plainKeys := false, apart := false, laid := [("math/bits.deBruijn64tab", laid_math_bits_deBruijn64tab)], narrowed := true }
def SweepJustUptoSaid : Prop := sweepJustUptoRow.holds Tryz.pinned (OpenSpec.upto sweepJustSpec)

end Rows
end Go.Proofs.YtjoejjhgneccgaaGreatDoor
