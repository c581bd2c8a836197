/- CodeAnswers: words for the walk. -/
import Derived.Test.YtednooklmonblaaCodeA
namespace Go.Proofs.Ytednooklmonblaa
open Go.RowKit

theorem ans_neq (c : Ans) (w : World) : (binOp .neq 49 (.agg c.cells) (.agg c.cells)).run Try.prog w = .ok (.bool false) w := by
  unfold Ans.cells
  go_simp
theorem ans_zero_eql (w : World) : (binOp .eql 49 (.agg Ans.zero.cells) (.agg #[.int .i64 0, .int .i64 0, .int .i64 0, .int .i64 0, .int .i64 0])).run Try.prog w = .ok (.bool true) w := by kernel_rfl
/-- The first test that an answer out of range meets. -/
theorem ans_bad8 {a : Ans} (h : ¬ a.good) : a.e < 0 ∨ 255 < a.e ∧ 0 ≤ a.e ∨ (a.k < 0 ∧ 0 ≤ a.e ∧ a.e ≤ 255) ∨ (255 < a.k ∧ 0 ≤ a.k ∧ 0 ≤ a.e ∧ a.e ≤ 255) ∨
    (a.d < 0 ∧ 0 ≤ a.k ∧ a.k ≤ 255 ∧ 0 ≤ a.e ∧ a.e ≤ 255) ∨ (65535 < a.d ∧ 0 ≤ a.d ∧ 0 ≤ a.k ∧ a.k ≤ 255 ∧ 0 ≤ a.e ∧ a.e ≤ 255) ∨
    (a.c < 0 ∧ 0 ≤ a.d ∧ a.d ≤ 65535 ∧ 0 ≤ a.k ∧ a.k ≤ 255 ∧ 0 ≤ a.e ∧ a.e ≤ 255) ∨ (65535 < a.c ∧ 0 ≤ a.c ∧ 0 ≤ a.d ∧ a.d ≤ 65535 ∧ 0 ≤ a.k ∧ a.k ≤ 255 ∧ 0 ≤ a.e ∧ a.e ≤ 255) := by
  unfold Ans.good at h
  omega
theorem loct_own (x : Stp) (w : World) :
    Calls Try.prog 26 #[.agg x.cells] w fun e w' => ∃ g cap, e = .returned (.slice (some ⟨g, 0, none⟩) 14 cap) ∧ 14 ≤ cap ∧ w'.ownsRow w.heap.size 5 1 (.slice (some ⟨g, 0, none⟩) 14 cap) 14 x.octV ∧ Below w.heap.size w w' :=
  (loct_any x w).mono fun e w' ⟨v, he, ho, hb⟩ => by
    obtain ⟨g, cap, rfl, _, _⟩ := ho.form (by omega)
    refine ⟨g, cap, he, ?_, ho, hb⟩
    rcases ho.2 with ⟨h, _⟩ | ⟨g', cap', cur, h, _, _, hc, _⟩
    · cases h
    · cases h; exact hc
/-- The first cells of what the call owns. -/
theorem own_take {w : World} {base e g cap n m : Nat} {xs : List Value} (h : w.ownsRow base e 1 (.slice (some ⟨g, 0, none⟩) n cap) n xs) (hm : m ≤ n) : w.ownsRow base e 1 (.slice (some ⟨g, 0, none⟩) m cap) m (xs.take m) := by
  refine ⟨by have := h.1; simp; omega, ?_⟩
  rcases h.2 with ⟨h1, _⟩ | ⟨g', cap', cur, h1, h2, h3, h4, h5, h6, h7⟩
  · cases h1
  · cases h1
    exact .inr ⟨g, cap, cur, rfl, h2, h3, by omega, h5, h6, by rw [← h7, List.take_take]; congr 1; omega⟩

theorem own_cells {w : World} {base e g cap n : Nat} {xs : List Value} (h : w.ownsRow base e 1 (.slice (some ⟨g, 0, none⟩) n cap) n xs) (lo : Nat) :
    ∀ j u, (xs.drop lo)[j]? = some u → w.cell? ((⟨g, lo, none⟩ : Addr).add j) = some u := by
  intro j u hu
  have hadd : (⟨g, lo, none⟩ : Addr).add j = ⟨g, lo + j, none⟩ := by unfold Addr.add; split <;> simp_all
  rw [hadd]
  rcases h.2 with ⟨h1, _⟩ | ⟨g', cap', cur, h1, h2, h3, h4, h5, h6, h7⟩
  · cases h1
  · cases h1
    rw [cell_of_row _ _ _ _ _ _ h3, ← hu, List.getElem?_drop, ← h7, List.getElem?_take]
    rw [List.getElem?_drop, ← h7, List.getElem?_take] at hu
    split at hu
    · rename_i hlt
      rw [if_pos hlt, Array.getElem?_toList]
    · cases hu
theorem told_back {a : Ans} (hg : a.good) (lo : -9223372036854775808 ≤ a.n) (hi : a.n ≤ 9223372036854775807) (A : Option Addr) (cap : Nat) (w : World) (h : RdB w A 14 a.octs) (hcap : 14 ≤ cap) :
    Calls Try.prog 30 #[.slice A 14 cap] w fun e w' => e = .returned (.tuple #[.agg a.cells, .int .i64 0]) ∧ Below w.heap.size w w' := by
  have := told_full A cap a.octs w h hcap
  rwa [Ans.back hg lo hi] at this
theorem own_ans {a : Ans} (hg : a.good) {w : World} {base e : Nat} {v : Value}
    (h : w.ownsRow base e 1 v (10 + 4) ((List.take 2 (Stp.octV ⟨a.e, a.k, 0, 0, 0, 0, a.n⟩) ++ List.drop 6 (Stp.octV ⟨a.e, a.k, 0, 0, 0, 0, a.n⟩)) ++ [.int .u8 (a.d / 256), .int .u8 (a.d % 256), .int .u8 (a.c / 256), .int .u8 (a.c % 256)])) :
    ∃ A cap, v = .slice A 14 cap ∧ 14 ≤ cap ∧ RdB w A 14 a.octs := by
  have e : (List.take 2 (Stp.octV ⟨a.e, a.k, 0, 0, 0, 0, a.n⟩) ++ List.drop 6 (Stp.octV ⟨a.e, a.k, 0, 0, 0, 0, a.n⟩)) ++ [.int .u8 (a.d / 256), .int .u8 (a.d % 256), .int .u8 (a.c / 256), .int .u8 (a.c % 256)] = a.octs.map (Value.int .u8) := by
    rw [← Ans.octs_law hg]
    simp [Stp.octV]
  rw [e] at h
  exact RdB.of_ownc h (Ans.octs_byte hg) (by omega)

end Go.Proofs.Ytednooklmonblaa
