/- What BoundTells answers. -/
import Derived.Test.YtbbdjfbhidpeiaaBnd4
import Derived.Test.YtbbdjfbhidpeiaaBnd5
namespace Go.Proofs.Ytbbdjfbhidpeiaa
open Go.RowKit

set_option maxHeartbeats 8000000 in
set_option maxRecDepth 100000 in
theorem btells_any (c : Cfg) (A : Option Addr) (n cap : Nat) (xs : List Int) (w : World) (h : RdI w A n xs) :
    Calls Try.prog 3 #[.agg c.cells, .slice A n cap] w fun e w' => e = .returned (.bool true) ∧ Below w.heap.size w w' := by
  have A0 := Lib.hid (heap_alloc_new w (.cells c.cells 23))
  have B0 := Lib.hid (below_alloc0 w (.cells c.cells 23))
  have R0 := Lib.hid (h.alloc (.cells c.cells 23))
  have hnb := c.need_bd xs n
  have hmx := h.max
  clear h
  by_cases hw : c.wrong = 0
  · have hp := (Cfg.wrong_zero hw).1.p
    have hck : c.check = 0 := by unfold Cfg.check; rw [if_pos hw]
    have hp2 : 0 ≤ 16 * c.p * c.p := Int.mul_nonneg (by omega) (by omega)
    have hp3 : 16 * c.p * c.p ≤ 1024 * 64 := Int.mul_le_mul (by omega) (by omega) (by omega) (by omega)
    have hu : 32 * c.p + 16 * c.p * c.p + c.p = c.units := by unfold Cfg.units; rw [if_pos hw, show c.p * 32 / 2 = 16 * c.p by omega, Int.mul_comm c.p 32]
    have hr : c.rounds = c.units / 64 + 12 := by unfold Cfg.rounds; rw [if_pos hw]
    have hn : c.need xs n = needI xs c.t n := by unfold Cfg.need; rw [if_pos hw]
    have hwd : decide (0 < c.words) = true := by
      have : c.words = c.p * 32 := by unfold Cfg.words; rw [if_pos hw]
      rw [this]; simp; omega
    have hfit : c.fits xs n = decide (needI xs c.t n ≤ c.p) := by unfold Cfg.fits; rw [hwd, hn, Bool.true_and]
    have hub := c.units_bd
    have HW := Lib.hid hw
    have HU := Lib.hid hu
    clear hw hu
    go_enter Try.func3, Try.ntmps3
    go_wp2_with (first
      | (go_at_call 8; refine (balive_any _).mono ?_; rintro e w4 ⟨rfl, hb4⟩; have A4 := Lib.hid (keep hb4 (k := w.heap.size) (o := .cells c.cells 23 (0, 0)) (Hid.out (by assumption))); have B4 := Lib.hid (below_next (w := w) (Hid.out (by assumption)) hb4); have R4 := Lib.hid (RdI.below (A := A) (n := n) (xs := xs) (Hid.out (by assumption)) hb4); clear hb4)
      | (go_at_call 9; refine (check_any c _).mono ?_; rintro e w4 ⟨rfl, hb4⟩; have A4 := Lib.hid (keep hb4 (k := w.heap.size) (o := .cells c.cells 23 (0, 0)) (Hid.out (by assumption))); have B4 := Lib.hid (below_next (w := w) (Hid.out (by assumption)) hb4); have R4 := Lib.hid (RdI.below (A := A) (n := n) (xs := xs) (Hid.out (by assumption)) hb4); clear hb4; have c0 : w4.cell? ⟨w.heap.size, 0, none⟩ = some (.int .i64 c.p) := cell_of_row _ _ _ _ _ _ A4.out)
      | (go_at_call 10; refine (units_any c _).mono ?_; rintro e w4 ⟨rfl, hb4⟩; have A4 := Lib.hid (keep hb4 (k := w.heap.size) (o := .cells c.cells 23 (0, 0)) (Hid.out (by assumption))); have B4 := Lib.hid (below_next (w := w) (Hid.out (by assumption)) hb4); have R4 := Lib.hid (RdI.below (A := A) (n := n) (xs := xs) (Hid.out (by assumption)) hb4); clear hb4)
      | (go_at_call 11; refine (rounds_any c _).mono ?_; rintro e w4 ⟨rfl, hb4⟩; have A4 := Lib.hid (keep hb4 (k := w.heap.size) (o := .cells c.cells 23 (0, 0)) (Hid.out (by assumption))); have B4 := Lib.hid (below_next (w := w) (Hid.out (by assumption)) hb4); have R4 := Lib.hid (RdI.below (A := A) (n := n) (xs := xs) (Hid.out (by assumption)) hb4); clear hb4)
      | (go_at_call 12; refine (need_any c A n cap xs _ (Hid.out (by assumption))).mono ?_; rintro e w4 ⟨rfl, hb4⟩; have A4 := Lib.hid (keep hb4 (k := w.heap.size) (o := .cells c.cells 23 (0, 0)) (Hid.out (by assumption))); have B4 := Lib.hid (below_next (w := w) (Hid.out (by assumption)) hb4); have R4 := Lib.hid (RdI.below (A := A) (n := n) (xs := xs) (Hid.out (by assumption)) hb4); clear hb4)
      | (go_at_call 13; refine (fits_any c A n cap xs _ (Hid.out (by assumption))).mono ?_; rintro e w4 ⟨rfl, hb4⟩; have A4 := Lib.hid (keep hb4 (k := w.heap.size) (o := .cells c.cells 23 (0, 0)) (Hid.out (by assumption))); have B4 := Lib.hid (below_next (w := w) (Hid.out (by assumption)) hb4); have R4 := Lib.hid (RdI.below (A := A) (n := n) (xs := xs) (Hid.out (by assumption)) hb4); clear hb4)
      | (refine wpList_load_row rfl 23 _ rfl w.heap.size rfl 23 c.cells (0, 0) _ ?_ Try.underlying23 rfl (by kernel_rfl) ?_; exact Hid.out (by assumption))
      | (refine gate_guard (by rfl) ?_; refine wpList_load_row rfl 23 _ rfl w.heap.size rfl 23 c.cells (0, 0) _ ?_ Try.underlying23 rfl (by kernel_rfl) ?_; exact Hid.out (by assumption)))
    rw [HU.out]
    clear hp2 hp3
    have q1 : IntKind.i64.wrap (c.units.tdiv 64) = c.units / 64 := IntWalk.i64_quo _ _ (by omega)
    have q2 : IntKind.i64.wrap (c.units / 64 + 12) = c.units / 64 + 12 := IntWalk.i64_in _ (by omega)
    have c0 : w4.cell? ⟨w.heap.size, 0, none⟩ = some (.int .i64 c.p) := cell_of_row _ _ _ _ _ _ A4.out
    have c1 : w4.cell? ⟨w.heap.size, 1, none⟩ = some (.int .i64 c.t) := cell_of_row _ _ _ _ _ _ A4.out
    have c2 : w4.cell? ⟨w.heap.size, 2, none⟩ = some (.int .i64 c.w) := cell_of_row _ _ _ _ _ _ A4.out
    have c3 : w4.cell? ⟨w.heap.size, 3, none⟩ = some (.int .i64 c.q) := cell_of_row _ _ _ _ _ _ A4.out
    have c4 : w4.cell? ⟨w.heap.size, 4, none⟩ = some (.int .i64 c.g) := cell_of_row _ _ _ _ _ _ A4.out
    have c5 : w4.cell? ⟨w.heap.size, 5, none⟩ = some (.int .i64 c.cap) := cell_of_row _ _ _ _ _ _ A4.out
    have c6 : w4.cell? ⟨w.heap.size, 6, none⟩ = some (.int .i64 c.tax) := cell_of_row _ _ _ _ _ _ A4.out
    have c7 : w4.cell? ⟨w.heap.size, 7, none⟩ = some (.int .i64 c.ch) := cell_of_row _ _ _ _ _ _ A4.out
    have c8 : w4.cell? ⟨w.heap.size, 8, none⟩ = some (.int .i64 c.st) := cell_of_row _ _ _ _ _ _ A4.out
    have c9 : w4.cell? ⟨w.heap.size, 9, none⟩ = some (.int .i64 c.tr) := cell_of_row _ _ _ _ _ _ A4.out
    go_region_held3 (fun w' => w'.cell? ⟨w.heap.size, 0, none⟩ = some (.int .i64 c.p) ∧ w'.cell? ⟨w.heap.size, 1, none⟩ = some (.int .i64 c.t) ∧ w'.cell? ⟨w.heap.size, 2, none⟩ = some (.int .i64 c.w) ∧ w'.cell? ⟨w.heap.size, 3, none⟩ = some (.int .i64 c.q) ∧ w'.cell? ⟨w.heap.size, 4, none⟩ = some (.int .i64 c.g) ∧ w'.cell? ⟨w.heap.size, 5, none⟩ = some (.int .i64 c.cap) ∧ w'.cell? ⟨w.heap.size, 6, none⟩ = some (.int .i64 c.tax) ∧ w'.cell? ⟨w.heap.size, 7, none⟩ = some (.int .i64 c.ch) ∧ w'.cell? ⟨w.heap.size, 8, none⟩ = some (.int .i64 c.st) ∧ w'.cell? ⟨w.heap.size, 9, none⟩ = some (.int .i64 c.tr) ∧ RdI w' A n xs ∧ Below w.heap.size w w')
      (first
        | exact ⟨c0, c1, c2, c3, c4, c5, c6, c7, c8, c9, R4.out.drew, B4.out.drew⟩
        | (go_split_ands; exact ⟨cell_keep hb5 (by assumption), cell_keep hb5 (by assumption), cell_keep hb5 (by assumption), cell_keep hb5 (by assumption), cell_keep hb5 (by assumption), cell_keep hb5 (by assumption), cell_keep hb5 (by assumption), cell_keep hb5 (by assumption), cell_keep hb5 (by assumption), cell_keep hb5 (by assumption), RdI.below (by assumption) hb5, below_next (by assumption) hb5⟩))
      (first
        | (go_at_call 10; refine (units_any c _).mono ?_; rintro e w5 ⟨rfl, hb5⟩)
        | (go_at_call 11; refine (rounds_any c _).mono ?_; rintro e w5 ⟨rfl, hb5⟩; rw [hr])
        | (go_split_ands; go_at_call 12; refine (need_any c A n cap xs _ (by assumption)).mono ?_; rintro e w5 ⟨rfl, hb5⟩; rw [hn])
        | (go_split_ands; go_at_call 13; refine (fits_any c A n cap xs _ (by assumption)).mono ?_; rintro e w5 ⟨rfl, hb5⟩; rw [hfit])
        | (go_split_ands; go_at_call 14; refine (lneed_ok c HW.out A n cap xs _ (by assumption)).mono ?_; rintro e w5 ⟨rfl, hb5⟩))
    go_wp2_with fail
    go_split_ands
    go_ret
    exact ⟨rfl, by assumption⟩
  · have hck : c.check = 6 := by unfold Cfg.check; rw [if_neg hw]
    have hu : c.units = 0 := by unfold Cfg.units; rw [if_neg hw]
    have hr : c.rounds = 0 := by unfold Cfg.rounds; rw [if_neg hw]
    have hn : c.need xs n = 0 := by unfold Cfg.need; rw [if_neg hw]
    have hfit : c.fits xs n = false := by unfold Cfg.fits; rw [show c.words = 0 by unfold Cfg.words; rw [if_neg hw]]; rfl
    clear hw hnb
    go_enter Try.func3, Try.ntmps3
    go_wp2_with (first
      | (go_at_call 8; refine (balive_any _).mono ?_; rintro e w4 ⟨rfl, hb4⟩; have A4 := Lib.hid (keep hb4 (k := w.heap.size) (o := .cells c.cells 23 (0, 0)) (Hid.out (by assumption))); have B4 := Lib.hid (below_next (w := w) (Hid.out (by assumption)) hb4); have R4 := Lib.hid (RdI.below (A := A) (n := n) (xs := xs) (Hid.out (by assumption)) hb4); clear hb4)
      | (go_at_call 9; refine (check_any c _).mono ?_; rintro e w4 ⟨rfl, hb4⟩; have A4 := Lib.hid (keep hb4 (k := w.heap.size) (o := .cells c.cells 23 (0, 0)) (Hid.out (by assumption))); have B4 := Lib.hid (below_next (w := w) (Hid.out (by assumption)) hb4); have R4 := Lib.hid (RdI.below (A := A) (n := n) (xs := xs) (Hid.out (by assumption)) hb4); clear hb4; have c0 : w4.cell? ⟨w.heap.size, 0, none⟩ = some (.int .i64 c.p) := cell_of_row _ _ _ _ _ _ A4.out)
      | (go_at_call 10; refine (units_any c _).mono ?_; rintro e w4 ⟨rfl, hb4⟩; have A4 := Lib.hid (keep hb4 (k := w.heap.size) (o := .cells c.cells 23 (0, 0)) (Hid.out (by assumption))); have B4 := Lib.hid (below_next (w := w) (Hid.out (by assumption)) hb4); have R4 := Lib.hid (RdI.below (A := A) (n := n) (xs := xs) (Hid.out (by assumption)) hb4); clear hb4)
      | (go_at_call 11; refine (rounds_any c _).mono ?_; rintro e w4 ⟨rfl, hb4⟩; have A4 := Lib.hid (keep hb4 (k := w.heap.size) (o := .cells c.cells 23 (0, 0)) (Hid.out (by assumption))); have B4 := Lib.hid (below_next (w := w) (Hid.out (by assumption)) hb4); have R4 := Lib.hid (RdI.below (A := A) (n := n) (xs := xs) (Hid.out (by assumption)) hb4); clear hb4)
      | (go_at_call 12; refine (need_any c A n cap xs _ (Hid.out (by assumption))).mono ?_; rintro e w4 ⟨rfl, hb4⟩; have A4 := Lib.hid (keep hb4 (k := w.heap.size) (o := .cells c.cells 23 (0, 0)) (Hid.out (by assumption))); have B4 := Lib.hid (below_next (w := w) (Hid.out (by assumption)) hb4); have R4 := Lib.hid (RdI.below (A := A) (n := n) (xs := xs) (Hid.out (by assumption)) hb4); clear hb4)
      | (go_at_call 13; refine (fits_any c A n cap xs _ (Hid.out (by assumption))).mono ?_; rintro e w4 ⟨rfl, hb4⟩; have A4 := Lib.hid (keep hb4 (k := w.heap.size) (o := .cells c.cells 23 (0, 0)) (Hid.out (by assumption))); have B4 := Lib.hid (below_next (w := w) (Hid.out (by assumption)) hb4); have R4 := Lib.hid (RdI.below (A := A) (n := n) (xs := xs) (Hid.out (by assumption)) hb4); clear hb4)
      | (refine wpList_load_row rfl 23 _ rfl w.heap.size rfl 23 c.cells (0, 0) _ ?_ Try.underlying23 rfl (by kernel_rfl) ?_; exact Hid.out (by assumption))
      | (refine gate_guard (by rfl) ?_; refine wpList_load_row rfl 23 _ rfl w.heap.size rfl 23 c.cells (0, 0) _ ?_ Try.underlying23 rfl (by kernel_rfl) ?_; exact Hid.out (by assumption)))
    go_ret
    exact ⟨rfl, Hid.out (by assumption)⟩
end Go.Proofs.Ytbbdjfbhidpeiaa
