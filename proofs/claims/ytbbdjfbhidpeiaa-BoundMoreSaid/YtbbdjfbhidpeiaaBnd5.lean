/- The law's own examples of bounds. -/
import Derived.Test.YtbbdjfbhidpeiaaBnd3
namespace Go.Proofs.Ytbbdjfbhidpeiaa
open Go.RowKit

def czero : Cfg := ⟨0, 0, 0, 0, 0, 0, 0, 0, 0, 0⟩

theorem RdI.three (w : World) (a b c : Int) (t : TypeId) : RdI (w.alloc (.cells #[.int .i64 a, .int .i64 b, .int .i64 c] t)) (some ⟨w.heap.size, 0, none⟩) 3 [a, b, c] :=
  ⟨rfl, by omega, fun _ => ⟨w.heap.size, 0, rfl, by show w.heap.size < (w.heap.push _).size; simp, fun j hj => by
    rw [cell_of_row _ _ _ _ _ _ (heap_alloc_new w _)]
    match j, hj with
    | 0, _ => rfl
    | 1, _ => rfl
    | 2, _ => rfl⟩⟩

set_option maxHeartbeats 4000000 in
set_option maxRecDepth 100000 in
theorem balive_any (w : World) :
    Calls Try.prog 8 #[] w fun e w' => e = .returned (.bool true) ∧ Below w.heap.size w w' := by
  have k1 : usual.need [] 0 = 1 := rfl
  have k2 : usual.fits [] 0 = true := rfl
  have k3 : usual.units = 4624 := rfl
  have k4 : usual.rounds = 84 := rfl
  have k5 : usual.need [3, 3, 40] 3 = 7 := rfl
  have k6 : czero.fits [] 0 = false := rfl
  go_enter Try.func8, Try.ntmps8
  go_wp2_with (first
    | (go_at_call 29; refine (usual_any _).mono ?_; rintro e w1 ⟨rfl, hb1⟩; have A1 := Lib.hid (heap_alloc_new w1 (.cells usual.cells 23)); have B1 := Lib.hid (below_new hb1 (.cells usual.cells 23)); clear hb1)
    | (refine wpList_store_new rfl 23 _ _ rfl usual.cells rfl rfl 23 _ (by kernel_rfl) rfl (by kernel_rfl) ?_)
    | (go_at_call 12; (first
        | ((with_reducible refine (need_any usual none 0 0 [] _ (RdI.nil _ _)).mono ?_); rintro e w4 ⟨rfl, hb4⟩; have A4 := Lib.hid (keep hb4 (k := w1.heap.size) (o := .cells usual.cells 23 (0, 0)) (Hid.out (by assumption))); have B4 := Lib.hid (below_next (w := w) (Hid.out (by assumption)) hb4); clear hb4)
        | (refine (need_any usual _ 3 3 [3, 3, 40] _ (RdI.three _ 3 3 40 _)).mono ?_; rintro e w4 ⟨rfl, hb4⟩; have A4 := Lib.hid (keep hb4 (k := w1.heap.size) (o := .cells usual.cells 23 (0, 0)) (keep_alloc _ (Hid.out (by assumption)))); have B4 := Lib.hid (below_next (w := w) (below_new (Hid.out (by assumption)) _) hb4); clear hb4)))
    | (go_at_call 13; (first
        | ((with_reducible refine (fits_any usual none 0 0 [] _ (RdI.nil _ _)).mono ?_); rintro e w4 ⟨rfl, hb4⟩; have A4 := Lib.hid (keep hb4 (k := w1.heap.size) (o := .cells usual.cells 23 (0, 0)) (Hid.out (by assumption))); have B4 := Lib.hid (below_next (w := w) (Hid.out (by assumption)) hb4); clear hb4)
        | (refine (fits_any czero none 0 0 [] _ (RdI.nil _ _)).mono ?_; rintro e w4 ⟨rfl, hb4⟩; have B4 := Lib.hid (below_next (w := w) (Hid.out (by assumption)) hb4); clear hb4)))
    | (go_at_call 10; refine (units_any usual _).mono ?_; rintro e w4 ⟨rfl, hb4⟩; have A4 := Lib.hid (keep hb4 (k := w1.heap.size) (o := .cells usual.cells 23 (0, 0)) (Hid.out (by assumption))); have B4 := Lib.hid (below_next (w := w) (Hid.out (by assumption)) hb4); clear hb4)
    | (go_at_call 11; refine (rounds_any usual _).mono ?_; rintro e w4 ⟨rfl, hb4⟩; have A4 := Lib.hid (keep hb4 (k := w1.heap.size) (o := .cells usual.cells 23 (0, 0)) (Hid.out (by assumption))); have B4 := Lib.hid (below_next (w := w) (Hid.out (by assumption)) hb4); clear hb4)
    | (refine wpList_load_row rfl 23 _ rfl _ rfl 23 usual.cells (0, 0) _ ?_ Try.underlying23 rfl (by kernel_rfl) ?_; exact Hid.out (by assumption))
    | (refine gate_guard (by rfl) ?_; refine wpList_load_row rfl 23 _ rfl _ rfl 23 usual.cells (0, 0) _ ?_ Try.underlying23 rfl (by kernel_rfl) ?_; exact Hid.out (by assumption)))
  go_ret
  exact ⟨rfl, Hid.out (by assumption)⟩
end Go.Proofs.Ytbbdjfbhidpeiaa
