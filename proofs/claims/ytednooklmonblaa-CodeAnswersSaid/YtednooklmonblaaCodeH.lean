/- CodeAnswers: the walk, of any answer and any octets. -/
import Derived.Test.YtednooklmonblaaCodeD
import Derived.Test.YtednooklmonblaaCodeE
import Derived.Test.YtednooklmonblaaCodeF
import Derived.Test.YtednooklmonblaaCodeG
namespace Go.Proofs.Ytednooklmonblaa
open Go.RowKit

theorem answers_any (a : Ans) (A : Option Addr) (n cap : Nat) (xs : List Int) (w : World) (h : RdB w A n xs) (hc : n ≤ cap) (lo : -9223372036854775808 ≤ a.n) (hi : a.n ≤ 9223372036854775807) :
    Calls Try.prog 9 #[.agg a.cells, .slice A n cap] w fun e w' => e = .returned (.bool true) ∧ Below w.heap.size w w' := by
  by_cases hn : n = 14
  · subst hn
    by_cases hg : a.good
    · exact answers_good_full a A 14 cap xs w h hg lo hi hc
    · exact answers_bad_full a A 14 cap xs w h hg hc
  · by_cases hg : a.good
    · exact answers_good_short a A n cap xs w h hg lo hi hn
    · exact answers_bad_short a A n cap xs w h hg hn
end Go.Proofs.Ytednooklmonblaa
