/- A config that came in, opened. -/
import Derived.Test.YtaefcmmjeloccaaRows
import Derived.Test.YtaefcmmjeloccaaCfg0
import Derived.Test.YtaefcmmjeloccaaOpen
namespace Go.Proofs.Ytaefcmmjeloccaa
open Go.ChangeShapes Go.WideShapes Go.ChangeAt Go.RowKit Go.Deep
theorem cfg_of_list {xs : List Int} (h : xs.length = 10) : ∃ c : Cfg, (xs.map (Value.int .i64)).toArray = c.cells := by
  match xs, h with
  | [a, b, c, d, e, f, g, h, i, j], _ => exact ⟨⟨a, b, c, d, e, f, g, h, i, j⟩, rfl⟩
set_option maxRecDepth 100000 in
theorem open_cfg {H : Type} {enc : TypeId × Value → H} {w : World} {base : Nat} {spare : Nat → Bool} {held : Bool} {r : Reach} {b0 : Nat} {v : Value} {d : DataW H} {p : List MemPlace}
    (hv : Value.okWide Try.prog w r b0 23 v) (h : DataW.Trod enc Try.prog w base spare held 23 v d p) : ∃ c : Cfg, v = .agg c.cells := by
  obtain ⟨xs, hl, rfl, _⟩ := open_ints_struct Try.underlying23 (by kernel_rfl) (by kernel_rfl) (fun i f hf => by
    match i, hf with
    | 0, hf | 1, hf | 2, hf | 3, hf | 4, hf | 5, hf | 6, hf | 7, hf | 8, hf | 9, hf => cases hf; exact Try.underlying3
    | i + 10, hf => simp at hf) hv h
  obtain ⟨c, hc⟩ := cfg_of_list (xs := xs) hl
  exact ⟨c, by rw [hc]⟩
end Go.Proofs.Ytaefcmmjeloccaa
