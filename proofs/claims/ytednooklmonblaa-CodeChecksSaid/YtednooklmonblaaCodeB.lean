/- CodeChecks: the walk. -/
import Derived.Test.YtednooklmonblaaCodeA
namespace Go.Proofs.Ytednooklmonblaa
open Go.RowKit

set_option maxHeartbeats 1000000 in
theorem cchecks_bad (x : Stp) (w : World) (h : x.check ≠ 0) :
    Calls Try.prog 7 #[.agg x.cells] w fun e w' => e = .returned (.bool true) ∧ Below w.heap.size w w' := by
  have h1 : (x.check != 0) = true := by simp [h]
  have HH := Lib.hid h
  clear h
  have A0 := Lib.hid (heap_alloc_new w (.cells x.cells 39))
  have B0 := Lib.hid (below_alloc0 w (.cells x.cells 39))
  go_enter Try.func7, Try.ntmps7
  go_wp2_with (first
    | (go_at_call 22; refine (calive_any _).mono ?_; rintro e w4 ⟨rfl, hb4⟩; have A4 := Lib.hid (keep hb4 (k := w.heap.size) (o := .cells x.cells 39 (0, 0)) (Hid.out (by assumption))); have B4 := Lib.hid (below_next (w := w) (Hid.out (by assumption)) hb4); clear hb4)
    | (go_at_call 23; refine (rcheck_any x _).mono ?_; rintro e w4 ⟨rfl, hb4⟩; have A4 := Lib.hid (keep hb4 (k := w.heap.size) (o := .cells x.cells 39 (0, 0)) (Hid.out (by assumption))); have B4 := Lib.hid (below_next (w := w) (Hid.out (by assumption)) hb4); clear hb4)
    | (go_at_call 24; refine (cput_bad x _ HH.out).mono ?_; rintro e w4 ⟨rfl, hb4⟩; have A4 := Lib.hid (keep hb4 (k := w.heap.size) (o := .cells x.cells 39 (0, 0)) (Hid.out (by assumption))); have B4 := Lib.hid (below_next (w := w) (Hid.out (by assumption)) hb4); clear hb4)
    | (go_at_call 25; refine (ccheck_any x _).mono ?_; rintro e w4 ⟨rfl, hb4⟩; have A4 := Lib.hid (keep hb4 (k := w.heap.size) (o := .cells x.cells 39 (0, 0)) (Hid.out (by assumption))); have B4 := Lib.hid (below_next (w := w) (Hid.out (by assumption)) hb4); clear hb4)
    | (refine gate_guard (by rfl) ?_; refine wpList_load_row rfl 39 _ rfl w.heap.size rfl 39 x.cells (0, 0) _ ?_ Try.underlying39 rfl (by kernel_rfl) ?_; exact Hid.out (by assumption)))
  go_ret
  exact ⟨rfl, Hid.out (by assumption)⟩

set_option maxHeartbeats 4000000 in
theorem cchecks_fine (x : Stp) (w : World) (h : x.check = 0) :
    Calls Try.prog 7 #[.agg x.cells] w fun e w' => e = .returned (.bool true) ∧ Below w.heap.size w w' := by
  have h1 : (x.check != 0) = false := by simp [h]
  have HH := Lib.hid h
  have A0 := Lib.hid (heap_alloc_new w (.cells x.cells 39))
  have B0 := Lib.hid (below_alloc0 w (.cells x.cells 39))
  have hconv : ∀ (W : World) (A : Option Addr) (cap : Nat), RdB W A 14 x.octs → (convert 29 9 (.slice A 14 cap)).run Try.prog W = .ok (.string (strOfNums x.octs)) W :=
    fun W A cap hr => hr.conv 29 9 5 Try.underlying29 Try.underlying5 Try.underlying9 cap
  have HC := Lib.hid hconv
  clear hconv
  go_enter Try.func7, Try.ntmps7
  go_wp2_with (first
    | (go_at_call 22; refine (calive_any _).mono ?_; rintro e w4 ⟨rfl, hb4⟩; have A4 := Lib.hid (keep hb4 (k := w.heap.size) (o := .cells x.cells 39 (0, 0)) (Hid.out (by assumption))); have B4 := Lib.hid (below_next (w := w) (Hid.out (by assumption)) hb4); clear hb4)
    | (go_at_call 23; refine (rcheck_any x _).mono ?_; rintro e w4 ⟨rfl, hb4⟩; have A4 := Lib.hid (keep hb4 (k := w.heap.size) (o := .cells x.cells 39 (0, 0)) (Hid.out (by assumption))); have B4 := Lib.hid (below_next (w := w) (Hid.out (by assumption)) hb4); clear hb4)
    | (go_at_call 24; refine (cput_c x _ HH.out).mono ?_; rintro e w4 ⟨b1, o1, cap1, rfl, hc1, hr1, hb4⟩; have A4 := Lib.hid (keep hb4 (k := w.heap.size) (o := .cells x.cells 39 (0, 0)) (Hid.out (by assumption))); have B4 := Lib.hid (below_next (w := w) (Hid.out (by assumption)) hb4); have R4 := Lib.hid hr1; clear hb4 hr1)
    | (refine gate_guard (by rfl) ?_; refine wpList_load_row rfl 39 _ rfl w.heap.size rfl 39 x.cells (0, 0) _ ?_ Try.underlying39 rfl (by kernel_rfl) ?_; exact Hid.out (by assumption)))
  obtain ⟨k0, k1, k2, k3, k4, k5, k6⟩ := stp_cell A4.out
  have hr4 := R4.out
  have hconv := HC.out
  go_region_with ((first
    | (go_at_call 25; refine (ccheck_any x _).mono ?_; rintro e w5 ⟨rfl, hb5⟩; have m0 := cell_keep hb5 k0; have m1 := cell_keep hb5 k1; have m2 := cell_keep hb5 k2; have m3 := cell_keep hb5 k3; have m4 := cell_keep hb5 k4; have m5 := cell_keep hb5 k5; have m6 := cell_keep hb5 k6; have r5 := RdB.below hr4.drew hb5)
    | (go_at_call 26; refine (loct_yes x _).mono ?_; rintro e w6 ⟨A6, cap6, rfl, hr6, hb6⟩; have r6 := RdB.below r5 hb6)))
  all_goals
    go_wp2_with fail
    go_ret
    exact ⟨rfl, below_next (below_next B4.out.drew hb5) hb6⟩

theorem cchecks_any (x : Stp) (w : World) :
    Calls Try.prog 7 #[.agg x.cells] w fun e w' => e = .returned (.bool true) ∧ Below w.heap.size w w' := by
  by_cases h : x.check = 0
  · exact cchecks_fine x w h
  · exact cchecks_bad x w h
end Go.Proofs.Ytednooklmonblaa
