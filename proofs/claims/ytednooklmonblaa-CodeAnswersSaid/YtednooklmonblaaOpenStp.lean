/- A step, an answer, a slice of octets that came in, opened. -/
import Derived.Test.YtednooklmonblaaRows
import Derived.Test.YtednooklmonblaaAns0
import Derived.Test.YtednooklmonblaaOpen
namespace Go.Proofs.Ytednooklmonblaa
open Go.ChangeShapes Go.WideShapes Go.ChangeAt Go.RowKit Go.Deep
section
variable {H : Type} {enc : TypeId × Value → H} {w : World} {base : Nat} {spare : Nat → Bool} {held : Bool} {r : Reach} {b0 : Nat} {v : Value} {d : DataW H} {p : List MemPlace}

theorem stp_of_list {xs : List Int} (h : xs.length = 7) : ∃ c : Stp, (xs.map (Value.int .i64)).toArray = c.cells := by
  match xs, h with
  | [a, b, c, d, e, f, g], _ => exact ⟨⟨a, b, c, d, e, f, g⟩, rfl⟩
theorem open_stp (hv : Value.okWide Try.prog w r b0 39 v) (h : DataW.Trod enc Try.prog w base spare held 39 v d p) : ∃ c : Stp, v = .agg c.cells := by
  obtain ⟨xs, hl, rfl, _⟩ := open_ints_struct Try.underlying39 (by kernel_rfl) (by kernel_rfl) (fun i f hf => by
    match i, hf with
    | 0, hf | 1, hf | 2, hf | 3, hf | 4, hf | 5, hf => cases hf; exact Try.underlying3
    | 6, hf => cases hf; exact Try.underlying2
    | i + 7, hf => simp at hf) hv h
  obtain ⟨c, hc⟩ := stp_of_list (xs := xs) hl
  exact ⟨c, by rw [hc]⟩
theorem ans_of_list {xs : List Int} (h : xs.length = 5) : ∃ c : Ans, xs = [c.e, c.k, c.n, c.d, c.c] ∧ (xs.map (Value.int .i64)).toArray = c.cells := by
  match xs, h with
  | [a, b, c, d, e], _ => exact ⟨⟨a, b, c, d, e⟩, rfl, rfl⟩
theorem open_ans (hv : Value.okWide Try.prog w r b0 49 v) (h : DataW.Trod enc Try.prog w base spare held 49 v d p) : ∃ c : Ans, v = .agg c.cells ∧ -9223372036854775808 ≤ c.n ∧ c.n ≤ 9223372036854775807 := by
  obtain ⟨xs, hl, rfl, hw⟩ := open_ints_struct Try.underlying49 (by kernel_rfl) (by kernel_rfl) (fun i f hf => by
    match i, hf with
    | 0, hf => cases hf; exact Try.underlying26
    | 1, hf | 3, hf | 4, hf => cases hf; exact Try.underlying3
    | 2, hf => cases hf; exact Try.underlying2
    | i + 5, hf => simp at hf) hv h
  obtain ⟨c, hx, hc⟩ := ans_of_list (xs := xs) hl
  have hn := hw c.n (by rw [hx]; simp)
  simp only [Lit.wf, Bool.and_eq_true, decide_eq_true_eq] at hn
  exact ⟨c, by rw [hc], hn.1, hn.2⟩
theorem open_bytesc {P : Program} {t e : TypeId} (ht : P.underlying t = some (.slice e)) (he : P.underlying e = some (.int .u8)) (hc : P.cellsOf e = 1)
    (hv : Value.okWide P w r b0 t v) (h : DataW.Trod enc P w base spare held t v d p) :
    ∃ A n cap xs, v = .slice A n cap ∧ n ≤ cap ∧ RdB w A n xs := by
  obtain ⟨A, n, cap, xs, rfl, hr⟩ := open_bytes ht he hc hv h
  refine ⟨A, n, cap, xs, rfl, ?_, hr⟩
  obtain ⟨fuel, hf⟩ := h
  rcases open_ints ht he hc hf with ⟨hcs, _⟩ | ⟨x, l, c, zs, hcs, _, hl, _⟩
  · simp [Value.cells] at hcs; omega
  · simp [Value.cells] at hcs; omega
end
end Go.Proofs.Ytednooklmonblaa
