/- ConfigChecks and ConfigMost: the walks. -/
import Derived.Test.YtednooklmonblaaLawC
namespace Go.Proofs.Ytednooklmonblaa
open Go.RowKit

set_option maxHeartbeats 1000000 in
theorem checks_any (c : Cfg) (w : World) :
    Calls Try.prog 3 #[.agg c.cells] w fun e w' => e = .returned (.bool true) ∧ Below w.heap.size w w' := by
  by_cases h : c.wrong = 0
  · have hk : c.check = 0 := by unfold Cfg.check; rw [if_pos h]
    have h0 : (c.wrong == 0) = true := by simp [h]
    have HH := Lib.hid h
    clear h
    have A0 := Lib.hid (heap_alloc_new w (.cells c.cells 23))
    have B0 := Lib.hid (below_alloc0 w (.cells c.cells 23))
    go_enter Try.func3, Try.ntmps3
    go_wp2_with (first
      | (go_at_call 12; refine (alive_any _).mono ?_; rintro e w4 ⟨rfl, hb4⟩; have A4 := Lib.hid (keep hb4 (k := w.heap.size) (o := .cells c.cells 23 (0, 0)) (Hid.out (by assumption))); have B4 := Lib.hid (below_next (w := w) (Hid.out (by assumption)) hb4); clear hb4)
      | (go_at_call 13; refine (lwrong_any _ _).mono ?_; rintro e w4 ⟨rfl, hb4⟩; have A4 := Lib.hid (keep hb4 (k := w.heap.size) (o := .cells c.cells 23 (0, 0)) (Hid.out (by assumption))); have B4 := Lib.hid (below_next (w := w) (Hid.out (by assumption)) hb4); clear hb4)
      | (go_at_call 14; refine (wrong_any _ _).mono ?_; rintro e w4 ⟨rfl, hb4⟩; have A4 := Lib.hid (keep hb4 (k := w.heap.size) (o := .cells c.cells 23 (0, 0)) (Hid.out (by assumption))); have B4 := Lib.hid (below_next (w := w) (Hid.out (by assumption)) hb4); clear hb4)
      | (go_at_call 15; refine (check_any _ _).mono ?_; rintro e w4 ⟨rfl, hb4⟩; have A4 := Lib.hid (keep hb4 (k := w.heap.size) (o := .cells c.cells 23 (0, 0)) (Hid.out (by assumption))); have B4 := Lib.hid (below_next (w := w) (Hid.out (by assumption)) hb4); clear hb4)
      | (go_at_call 16; refine (most_any _ _).mono ?_; rintro e w4 ⟨rfl, hb4⟩; have A4 := Lib.hid (keep hb4 (k := w.heap.size) (o := .cells c.cells 23 (0, 0)) (Hid.out (by assumption))); have B4 := Lib.hid (below_next (w := w) (Hid.out (by assumption)) hb4); clear hb4)
      | (go_at_call 17; refine (words_any _ _).mono ?_; rintro e w4 ⟨rfl, hb4⟩; have A4 := Lib.hid (keep hb4 (k := w.heap.size) (o := .cells c.cells 23 (0, 0)) (Hid.out (by assumption))); have B4 := Lib.hid (below_next (w := w) (Hid.out (by assumption)) hb4); clear hb4)
      | (refine gate_guard (by rfl) ?_; refine wpList_load_row rfl 23 _ rfl w.heap.size rfl 23 c.cells (0, 0) _ ?_ Try.underlying23 rfl (by kernel_rfl) ?_; exact Hid.out (by assumption)))
    go_ret
    exact ⟨rfl, Hid.out (by assumption)⟩
  · have hk : c.check = 6 := by unfold Cfg.check; rw [if_neg h]
    have h0 : (c.wrong == 0) = false := by simp [h]
    have HH := Lib.hid h
    clear h
    have A0 := Lib.hid (heap_alloc_new w (.cells c.cells 23))
    have B0 := Lib.hid (below_alloc0 w (.cells c.cells 23))
    go_enter Try.func3, Try.ntmps3
    go_wp2_with (first
      | (go_at_call 12; refine (alive_any _).mono ?_; rintro e w4 ⟨rfl, hb4⟩; have A4 := Lib.hid (keep hb4 (k := w.heap.size) (o := .cells c.cells 23 (0, 0)) (Hid.out (by assumption))); have B4 := Lib.hid (below_next (w := w) (Hid.out (by assumption)) hb4); clear hb4)
      | (go_at_call 13; refine (lwrong_any _ _).mono ?_; rintro e w4 ⟨rfl, hb4⟩; have A4 := Lib.hid (keep hb4 (k := w.heap.size) (o := .cells c.cells 23 (0, 0)) (Hid.out (by assumption))); have B4 := Lib.hid (below_next (w := w) (Hid.out (by assumption)) hb4); clear hb4)
      | (go_at_call 14; refine (wrong_any _ _).mono ?_; rintro e w4 ⟨rfl, hb4⟩; have A4 := Lib.hid (keep hb4 (k := w.heap.size) (o := .cells c.cells 23 (0, 0)) (Hid.out (by assumption))); have B4 := Lib.hid (below_next (w := w) (Hid.out (by assumption)) hb4); clear hb4)
      | (go_at_call 15; refine (check_any _ _).mono ?_; rintro e w4 ⟨rfl, hb4⟩; have A4 := Lib.hid (keep hb4 (k := w.heap.size) (o := .cells c.cells 23 (0, 0)) (Hid.out (by assumption))); have B4 := Lib.hid (below_next (w := w) (Hid.out (by assumption)) hb4); clear hb4)
      | (go_at_call 16; refine (most_any _ _).mono ?_; rintro e w4 ⟨rfl, hb4⟩; have A4 := Lib.hid (keep hb4 (k := w.heap.size) (o := .cells c.cells 23 (0, 0)) (Hid.out (by assumption))); have B4 := Lib.hid (below_next (w := w) (Hid.out (by assumption)) hb4); clear hb4)
      | (go_at_call 17; refine (words_any _ _).mono ?_; rintro e w4 ⟨rfl, hb4⟩; have A4 := Lib.hid (keep hb4 (k := w.heap.size) (o := .cells c.cells 23 (0, 0)) (Hid.out (by assumption))); have B4 := Lib.hid (below_next (w := w) (Hid.out (by assumption)) hb4); clear hb4)
      | (refine gate_guard (by rfl) ?_; refine wpList_load_row rfl 23 _ rfl w.heap.size rfl 23 c.cells (0, 0) _ ?_ Try.underlying23 rfl (by kernel_rfl) ?_; exact Hid.out (by assumption)))
    go_ret
    exact ⟨rfl, Hid.out (by assumption)⟩

theorem most_bounds {c : Cfg} (h : c.wrong = 0) : c.most * 1000 ≤ c.w * (1000 - c.g) ∧ c.w * (1000 - c.g) < (c.most + 1) * 1000 ∧ c.q ≤ c.most ∧ c.most ≤ c.w ∧ 0 ≤ c.most ∧ c.most ≤ 64 ∧ c.words = 32 * c.p := by
  obtain ⟨hf, hq⟩ := Cfg.wrong_zero h
  have hl := hf.left
  have hw := hf.w
  have hg := hf.g
  have h1 : c.w * (1000 - c.g) ≤ c.w * 1000 := Int.mul_le_mul_of_nonneg_left (by omega) (by omega)
  unfold Cfg.most Cfg.words
  rw [if_pos h, if_pos h]
  generalize c.w * (1000 - c.g) = x at *
  omega

set_option maxHeartbeats 1000000 in
theorem cmost_any (c : Cfg) (w : World) :
    Calls Try.prog 4 #[.agg c.cells] w fun e w' => e = .returned (.bool true) ∧ Below w.heap.size w w' := by
  by_cases h : c.wrong = 0
  · obtain ⟨m1, m2, m3, m4, m5, m6, m7⟩ := most_bounds h
    obtain ⟨hf, _⟩ := Cfg.wrong_zero h
    have hl := hf.left
    have hw := hf.w
    have hg := hf.g
    have hp := hf.p
    have h0 : (c.wrong != 0) = false := by simp [h]
    have HH := Lib.hid h
    clear h hf
    have A0 := Lib.hid (heap_alloc_new w (.cells c.cells 23))
    have B0 := Lib.hid (below_alloc0 w (.cells c.cells 23))
    go_enter Try.func4, Try.ntmps4
    go_wp2_with (first
      | (go_at_call 12; refine (alive_any _).mono ?_; rintro e w4 ⟨rfl, hb4⟩; have A4 := Lib.hid (keep hb4 (k := w.heap.size) (o := .cells c.cells 23 (0, 0)) (Hid.out (by assumption))); have B4 := Lib.hid (below_next (w := w) (Hid.out (by assumption)) hb4); clear hb4)
      | (go_at_call 13; refine (lwrong_any _ _).mono ?_; rintro e w4 ⟨rfl, hb4⟩; have A4 := Lib.hid (keep hb4 (k := w.heap.size) (o := .cells c.cells 23 (0, 0)) (Hid.out (by assumption))); have c0 : w4.cell? ⟨w.heap.size, 0, none⟩ = some (.int .i64 c.p) := cell_of_row _ _ _ _ _ _ A4.out; have c1 : w4.cell? ⟨w.heap.size, 1, none⟩ = some (.int .i64 c.t) := cell_of_row _ _ _ _ _ _ A4.out; have c2 : w4.cell? ⟨w.heap.size, 2, none⟩ = some (.int .i64 c.w) := cell_of_row _ _ _ _ _ _ A4.out; have c3 : w4.cell? ⟨w.heap.size, 3, none⟩ = some (.int .i64 c.q) := cell_of_row _ _ _ _ _ _ A4.out; have c4 : w4.cell? ⟨w.heap.size, 4, none⟩ = some (.int .i64 c.g) := cell_of_row _ _ _ _ _ _ A4.out; have c5 : w4.cell? ⟨w.heap.size, 5, none⟩ = some (.int .i64 c.cap) := cell_of_row _ _ _ _ _ _ A4.out; have c6 : w4.cell? ⟨w.heap.size, 6, none⟩ = some (.int .i64 c.tax) := cell_of_row _ _ _ _ _ _ A4.out; have c7 : w4.cell? ⟨w.heap.size, 7, none⟩ = some (.int .i64 c.ch) := cell_of_row _ _ _ _ _ _ A4.out; have c8 : w4.cell? ⟨w.heap.size, 8, none⟩ = some (.int .i64 c.st) := cell_of_row _ _ _ _ _ _ A4.out; have c9 : w4.cell? ⟨w.heap.size, 9, none⟩ = some (.int .i64 c.tr) := cell_of_row _ _ _ _ _ _ A4.out; have B4 := Lib.hid (below_next (w := w) (Hid.out (by assumption)) hb4); clear hb4)
      | (go_at_call 14; refine (wrong_any _ _).mono ?_; rintro e w4 ⟨rfl, hb4⟩; have A4 := Lib.hid (keep hb4 (k := w.heap.size) (o := .cells c.cells 23 (0, 0)) (Hid.out (by assumption))); have B4 := Lib.hid (below_next (w := w) (Hid.out (by assumption)) hb4); clear hb4)
      | (go_at_call 15; refine (check_any _ _).mono ?_; rintro e w4 ⟨rfl, hb4⟩; have A4 := Lib.hid (keep hb4 (k := w.heap.size) (o := .cells c.cells 23 (0, 0)) (Hid.out (by assumption))); have B4 := Lib.hid (below_next (w := w) (Hid.out (by assumption)) hb4); clear hb4)
      | (go_at_call 16; refine (most_any _ _).mono ?_; rintro e w4 ⟨rfl, hb4⟩; have A4 := Lib.hid (keep hb4 (k := w.heap.size) (o := .cells c.cells 23 (0, 0)) (Hid.out (by assumption))); have B4 := Lib.hid (below_next (w := w) (Hid.out (by assumption)) hb4); clear hb4)
      | (go_at_call 17; refine (words_any _ _).mono ?_; rintro e w4 ⟨rfl, hb4⟩; have A4 := Lib.hid (keep hb4 (k := w.heap.size) (o := .cells c.cells 23 (0, 0)) (Hid.out (by assumption))); have B4 := Lib.hid (below_next (w := w) (Hid.out (by assumption)) hb4); clear hb4)
      | (refine gate_guard (by rfl) ?_; refine wpList_load_row rfl 23 _ rfl w.heap.size rfl 23 c.cells (0, 0) _ ?_ Try.underlying23 rfl (by kernel_rfl) ?_; exact Hid.out (by assumption)))
    have e1 : IntKind.i64.wrap (c.most * 1000) = c.most * 1000 := IntWalk.i64_in _ (by omega)
    have e2 : IntKind.i64.wrap (c.most + 1) = c.most + 1 := IntWalk.i64_in _ (by omega)
    have e3 : IntKind.i64.wrap ((c.most + 1) * 1000) = (c.most + 1) * 1000 := IntWalk.i64_in _ (by omega)
    have e4 : IntKind.i64.wrap (32 * c.p) = 32 * c.p := IntWalk.i64_in _ (by omega)
    have d1 : decide (c.most * 1000 ≤ c.w * (1000 - c.g)) = true := by simp; omega
    have d2 : decide (c.w * (1000 - c.g) < (c.most + 1) * 1000) = true := by simp; omega
    have d3 : decide (c.q ≤ c.most) = true := by simp; omega
    have d4 : decide (c.most ≤ c.w) = true := by simp; omega
    clear m1 m2 m3 m4
    go_region_held3 (fun w' => w'.cell? ⟨w.heap.size, 0, none⟩ = some (.int .i64 c.p) ∧ w'.cell? ⟨w.heap.size, 1, none⟩ = some (.int .i64 c.t) ∧ w'.cell? ⟨w.heap.size, 2, none⟩ = some (.int .i64 c.w) ∧ w'.cell? ⟨w.heap.size, 3, none⟩ = some (.int .i64 c.q) ∧ w'.cell? ⟨w.heap.size, 4, none⟩ = some (.int .i64 c.g) ∧ w'.cell? ⟨w.heap.size, 5, none⟩ = some (.int .i64 c.cap) ∧ w'.cell? ⟨w.heap.size, 6, none⟩ = some (.int .i64 c.tax) ∧ w'.cell? ⟨w.heap.size, 7, none⟩ = some (.int .i64 c.ch) ∧ w'.cell? ⟨w.heap.size, 8, none⟩ = some (.int .i64 c.st) ∧ w'.cell? ⟨w.heap.size, 9, none⟩ = some (.int .i64 c.tr))
      (first
        | go_keep
        | (go_split_ands
           exact ⟨cell_keep hb5 (by assumption), cell_keep hb5 (by assumption), cell_keep hb5 (by assumption), cell_keep hb5 (by assumption), cell_keep hb5 (by assumption), cell_keep hb5 (by assumption), cell_keep hb5 (by assumption), cell_keep hb5 (by assumption), cell_keep hb5 (by assumption), cell_keep hb5 (by assumption)⟩))
      ((go_at_call 17; refine (words_any c _).mono ?_; rintro e w5 ⟨rfl, hb5⟩))
    go_wp2_with fail
    go_ret
    exact ⟨rfl, below_next B4.out.drew hb5⟩
  · have hk : c.most = 0 := by unfold Cfg.most; rw [if_neg h]
    have hk2 : c.words = 0 := by unfold Cfg.words; rw [if_neg h]
    have h0 : (c.wrong != 0) = true := by simp [h]
    have HH := Lib.hid h
    clear h
    have A0 := Lib.hid (heap_alloc_new w (.cells c.cells 23))
    have B0 := Lib.hid (below_alloc0 w (.cells c.cells 23))
    go_enter Try.func4, Try.ntmps4
    go_wp2_with (first
      | (go_at_call 12; refine (alive_any _).mono ?_; rintro e w4 ⟨rfl, hb4⟩; have A4 := Lib.hid (keep hb4 (k := w.heap.size) (o := .cells c.cells 23 (0, 0)) (Hid.out (by assumption))); have B4 := Lib.hid (below_next (w := w) (Hid.out (by assumption)) hb4); clear hb4)
      | (go_at_call 13; refine (lwrong_any _ _).mono ?_; rintro e w4 ⟨rfl, hb4⟩; have A4 := Lib.hid (keep hb4 (k := w.heap.size) (o := .cells c.cells 23 (0, 0)) (Hid.out (by assumption))); have B4 := Lib.hid (below_next (w := w) (Hid.out (by assumption)) hb4); clear hb4)
      | (go_at_call 14; refine (wrong_any _ _).mono ?_; rintro e w4 ⟨rfl, hb4⟩; have A4 := Lib.hid (keep hb4 (k := w.heap.size) (o := .cells c.cells 23 (0, 0)) (Hid.out (by assumption))); have B4 := Lib.hid (below_next (w := w) (Hid.out (by assumption)) hb4); clear hb4)
      | (go_at_call 15; refine (check_any _ _).mono ?_; rintro e w4 ⟨rfl, hb4⟩; have A4 := Lib.hid (keep hb4 (k := w.heap.size) (o := .cells c.cells 23 (0, 0)) (Hid.out (by assumption))); have B4 := Lib.hid (below_next (w := w) (Hid.out (by assumption)) hb4); clear hb4)
      | (go_at_call 16; refine (most_any _ _).mono ?_; rintro e w4 ⟨rfl, hb4⟩; have A4 := Lib.hid (keep hb4 (k := w.heap.size) (o := .cells c.cells 23 (0, 0)) (Hid.out (by assumption))); have B4 := Lib.hid (below_next (w := w) (Hid.out (by assumption)) hb4); clear hb4)
      | (go_at_call 17; refine (words_any _ _).mono ?_; rintro e w4 ⟨rfl, hb4⟩; have A4 := Lib.hid (keep hb4 (k := w.heap.size) (o := .cells c.cells 23 (0, 0)) (Hid.out (by assumption))); have B4 := Lib.hid (below_next (w := w) (Hid.out (by assumption)) hb4); clear hb4)
      | (refine gate_guard (by rfl) ?_; refine wpList_load_row rfl 23 _ rfl w.heap.size rfl 23 c.cells (0, 0) _ ?_ Try.underlying23 rfl (by kernel_rfl) ?_; exact Hid.out (by assumption)))
    go_ret
    exact ⟨rfl, Hid.out (by assumption)⟩
end Go.Proofs.Ytednooklmonblaa
