/- The graph's Do, whole. -/
import Derived.Test.YtaefcmmjeloccaaGrH
namespace Go.Proofs.Ytaefcmmjeloccaa
open Go.RowKit

section
variable {w : World} {g : Nat} {c : Cfg} {G : Gr} {tb tcap nb ncap : Nat} {hv nv : List Value}
/-- Each step of a graph is as the plain one's. -/
theorem gdo_any (h : Gx 60 72 w g c G tb tcap nb ncap hv nv) (hg : G.Good) (x : Stp) (no : Int) :
    Calls Try.prog 11 #[.pointer (some ⟨g, 0, none⟩), .agg x.cells, .int .i64 no] w fun e w' => DoR w w' g c (G.out c.q x no) (fpOf g tb nb hv nv) e := by
  by_cases hc : x.check = 0
  · by_cases hw : G.who x = 0
    · obtain ⟨hk, -, -⟩ := Stp.check_zero hc
      have hcs : x.k = 1 ∨ x.k = 2 ∨ x.k = 3 ∨ x.k = 4 ∨ x.k = 5 ∨ x.k = 6 ∨ x.k = 7 ∨ x.k = 8 ∨ x.k = 9 ∨ x.k = 10 ∨ x.k = 11 ∨ x.k = 12 ∨ x.k = 13 ∨ x.k = 14 ∨ x.k = 15 ∨ x.k = 16 ∨ x.k = 17 := by omega
      rcases hcs with h1 | h1 | h1 | h1 | h1 | h1 | h1 | h1 | h1 | h1 | h1 | h1 | h1 | h1 | h1 | h1 | h1
      · exact gdo_1 h hg x no hc hw h1
      · exact gdo_2 h hg x no hc hw h1
      · exact gdo_3 h hg x no hc hw h1
      · exact gdo_4 h hg x no hc hw h1
      · exact gdo_5 h hg x no hc hw h1
      · exact gdo_6 h hg x no hc hw h1
      · exact gdo_7 h hg x no hc hw h1
      · exact gdo_8 h hg x no hc hw h1
      · exact gdo_9 h hg x no hc hw h1
      · exact gdo_10 h hg x no hc hw h1
      · exact gdo_11 h hg x no hc hw h1
      · exact gdo_12 h hg x no hc hw h1
      · exact gdo_13 h hg x no hc hw h1
      · exact gdo_14 h hg x no hc hw h1
      · exact gdo_15 h hg x no hc hw h1
      · exact gdo_16 h hg x no hc hw h1
      · exact gdo_17 h hg x no hc hw h1
    · exact gdo_who h hg x no hc hw
  · exact gdo_bad h hg x no hc
end
end Go.Proofs.Ytaefcmmjeloccaa
