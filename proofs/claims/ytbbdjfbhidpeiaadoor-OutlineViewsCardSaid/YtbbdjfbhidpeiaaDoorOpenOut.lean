/- An answer, a value, a config that came in, opened, with their numbers' bounds; the table. -/
import Derived.Test.YtbbdjfbhidpeiaaDoorRows
import Derived.Test.YtbbdjfbhidpeiaaDoorOut5
import Derived.Test.YtbbdjfbhidpeiaaDoorOpenInts
import Derived.Lib.LaidTab
import Derived.Stop.LaidErr
import Derived.LaidMore
namespace Go.Proofs.YtbbdjfbhidpeiaaDoor
open Go.ChangeShapes Go.WideShapes Go.ChangeAt Go.RowKit Go.Deep

theorem own : ownKnob Tryd.prog.godebug = none := by kernel_rfl
theorem gPow : Tryd.prog.globalNamed "internal/strconv.uint64pow10" = some 1 := by kernel_rfl
theorem tPow : (Tryd.prog.globals[1]?).map (·.type) = some 78 := by kernel_rfl
abbrev laid3 : List (String × DataW Unit) := [("math/bits.deBruijn32tab", Rows.laid_math_bits_deBruijn32tab), ("math/bits.deBruijn64tab", Rows.laid_math_bits_deBruijn64tab), ("internal/strconv.uint64pow10", Rows.laid_internal_strconv_uint64pow10)]
/-- The door's own heap meets the condition. -/
theorem door_met (os : Os) (args : Array Value) : laidMetH Tryd.prog laid3 ((World.doorLaid Tryd.prog 400 os).forCall (fun _ _ => 0) ⟨#[], args, []⟩).memory :=
  laidMetH_of_parts3 (fuel := 8) (laidMet_of_run' 8 (by kernel_rfl) (by kernel_rfl)) (by kernel_rfl) (by kernel_rfl)
theorem tab_of_laid {W : World} (h : laidMetH Tryd.prog laid3 W) : Tab W := by
  rw [MakeChecks.laidMetH_plain _ _ _ (by kernel_rfl)] at h
  exact Lib.tabIs_of_head gPow tPow Tryd.underlying78 Tryd.underlying71 (by kernel_rfl) (by kernel_rfl) h.tail.tail

section
variable {H : Type} {enc : TypeId × Value → H} {w : World} {base : Nat} {spare : Nat → Bool} {held : Bool} {r : Reach} {b0 : Nat} {v : Value} {d : DataW H} {p : List MemPlace}
theorem rng_of_wf {x : Int} (h : (Lit.int .i64 x).wf = true) : Rng x := by
  simp only [Lit.wf, Bool.and_eq_true, decide_eq_true_eq] at h
  exact ⟨h.1, h.2⟩
theorem open_answer (hv : Value.okWide Tryd.prog w r b0 24 v) (h : DataW.Trod enc Tryd.prog w base spare held 24 v d p) :
    ∃ e k n d c : Int, v = .agg #[.int .i64 e, .int .i64 k, .int .i64 n, .int .i64 d, .int .i64 c] ∧ Rng e ∧ Rng n ∧ Rng d ∧ Rng c := by
  obtain ⟨xs, hl, rfl, hw⟩ := open_ints_struct Tryd.underlying24 (by kernel_rfl) (by kernel_rfl) (fun i f hf => by
    match i, hf with
    | 0, hf => cases hf; exact Tryd.underlying22
    | 1, hf | 3, hf | 4, hf => cases hf; exact Tryd.underlying3
    | 2, hf => cases hf; exact Tryd.underlying2
    | i + 5, hf => simp at hf) hv h
  match xs, hl with
  | [e, k, n, d, c], _ => exact ⟨e, k, n, d, c, rfl, rng_of_wf (hw _ (by simp)), rng_of_wf (hw _ (by simp)), rng_of_wf (hw _ (by simp)), rng_of_wf (hw _ (by simp))⟩
theorem open_value (hv : Value.okWide Tryd.prog w r b0 26 v) (h : DataW.Trod enc Tryd.prog w base spare held 26 v d p) :
    ∃ k n : Int, v = .agg #[.int .i64 k, .int .i64 n] ∧ Rng n := by
  obtain ⟨xs, hl, rfl, hw⟩ := open_ints_struct Tryd.underlying26 (by kernel_rfl) (by kernel_rfl) (fun i f hf => by
    match i, hf with
    | 0, hf => cases hf; exact Tryd.underlying3
    | 1, hf => cases hf; exact Tryd.underlying2
    | i + 2, hf => simp at hf) hv h
  match xs, hl with
  | [k, n], _ => exact ⟨k, n, rfl, rng_of_wf (hw _ (by simp))⟩
set_option maxRecDepth 100000 in
theorem open_config (hv : Value.okWide Tryd.prog w r b0 46 v) (h : DataW.Trod enc Tryd.prog w base spare held 46 v d p) :
    ∃ c : Cfg, v = .agg c.cells ∧ ∀ x ∈ c.nums, Rng x := by
  obtain ⟨xs, hl, rfl, hw⟩ := open_ints_struct Tryd.underlying46 (by kernel_rfl) (by kernel_rfl) (fun i f hf => by
    match i, hf with
    | 0, hf | 1, hf | 2, hf | 3, hf | 4, hf | 5, hf | 6, hf | 7, hf | 8, hf | 9, hf => cases hf; exact Tryd.underlying3
    | i + 10, hf => simp at hf) hv h
  match xs, hl with
  | [a, b, c, d, e, f, g, h, i, j], _ => exact ⟨⟨a, b, c, d, e, f, g, h, i, j⟩, rfl, fun x hx => rng_of_wf (hw x hx)⟩
end
end Go.Proofs.YtbbdjfbhidpeiaaDoor
