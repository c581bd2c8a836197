/- What bound.Fits comes to. -/
import Derived.Test.YtbbdjfbhidpeiaaBnd2
namespace Go.Proofs.Ytbbdjfbhidpeiaa
open Go.RowKit

theorem Cfg.need_bd (c : Cfg) (xs : List Int) (n : Nat) : 0 ≤ c.need xs n ∧ c.need xs n ≤ 10 * n + 64 := by
  unfold Cfg.need
  split
  · rename_i h
    have ht := (Cfg.wrong_zero h).1.t
    have h1 := pgI_bd xs n
    have h2 := sumI_bd xs (t := c.t) n (by omega) 4 (by omega)
    unfold needI; omega
  · omega

set_option maxHeartbeats 4000000 in
set_option maxRecDepth 100000 in
theorem fits_any (c : Cfg) (A : Option Addr) (n cap : Nat) (xs : List Int) (w : World) (h : RdI w A n xs) :
    Calls Try.prog 13 #[.agg c.cells, .slice A n cap] w fun e w' => e = .returned (.bool (c.fits xs n)) ∧ Below w.heap.size w w' := by
  have A0 := Lib.hid (heap_alloc_new w (.cells c.cells 23))
  have B0 := Lib.hid (below_alloc0 w (.cells c.cells 23))
  have R0 := Lib.hid (h.alloc (.cells c.cells 23))
  have hnb := c.need_bd xs n
  have hmx := h.max
  clear h
  by_cases hw : 0 < c.words
  · have hd : decide (0 < c.words) = true := decide_eq_true hw
    have hf : c.fits xs n = decide (c.need xs n ≤ c.p) := by unfold Cfg.fits; rw [hd, Bool.true_and]
    rw [hf]
    clear hf hw
    go_enter Try.func13, Try.ntmps13
    go_wp2_with fail
    have c0 : (w.alloc (.cells c.cells 23)).cell? ⟨w.heap.size, 0, none⟩ = some (.int .i64 c.p) := cell_of_row _ _ _ _ _ _ A0.out
    have c1 : (w.alloc (.cells c.cells 23)).cell? ⟨w.heap.size, 1, none⟩ = some (.int .i64 c.t) := cell_of_row _ _ _ _ _ _ A0.out
    have c2 : (w.alloc (.cells c.cells 23)).cell? ⟨w.heap.size, 2, none⟩ = some (.int .i64 c.w) := cell_of_row _ _ _ _ _ _ A0.out
    have c3 : (w.alloc (.cells c.cells 23)).cell? ⟨w.heap.size, 3, none⟩ = some (.int .i64 c.q) := cell_of_row _ _ _ _ _ _ A0.out
    have c4 : (w.alloc (.cells c.cells 23)).cell? ⟨w.heap.size, 4, none⟩ = some (.int .i64 c.g) := cell_of_row _ _ _ _ _ _ A0.out
    have c5 : (w.alloc (.cells c.cells 23)).cell? ⟨w.heap.size, 5, none⟩ = some (.int .i64 c.cap) := cell_of_row _ _ _ _ _ _ A0.out
    have c6 : (w.alloc (.cells c.cells 23)).cell? ⟨w.heap.size, 6, none⟩ = some (.int .i64 c.tax) := cell_of_row _ _ _ _ _ _ A0.out
    have c7 : (w.alloc (.cells c.cells 23)).cell? ⟨w.heap.size, 7, none⟩ = some (.int .i64 c.ch) := cell_of_row _ _ _ _ _ _ A0.out
    have c8 : (w.alloc (.cells c.cells 23)).cell? ⟨w.heap.size, 8, none⟩ = some (.int .i64 c.st) := cell_of_row _ _ _ _ _ _ A0.out
    have c9 : (w.alloc (.cells c.cells 23)).cell? ⟨w.heap.size, 9, none⟩ = some (.int .i64 c.tr) := cell_of_row _ _ _ _ _ _ A0.out
    go_region_held3 (fun w' => w'.cell? ⟨w.heap.size, 0, none⟩ = some (.int .i64 c.p) ∧ w'.cell? ⟨w.heap.size, 1, none⟩ = some (.int .i64 c.t) ∧ w'.cell? ⟨w.heap.size, 2, none⟩ = some (.int .i64 c.w) ∧ w'.cell? ⟨w.heap.size, 3, none⟩ = some (.int .i64 c.q) ∧ w'.cell? ⟨w.heap.size, 4, none⟩ = some (.int .i64 c.g) ∧ w'.cell? ⟨w.heap.size, 5, none⟩ = some (.int .i64 c.cap) ∧ w'.cell? ⟨w.heap.size, 6, none⟩ = some (.int .i64 c.tax) ∧ w'.cell? ⟨w.heap.size, 7, none⟩ = some (.int .i64 c.ch) ∧ w'.cell? ⟨w.heap.size, 8, none⟩ = some (.int .i64 c.st) ∧ w'.cell? ⟨w.heap.size, 9, none⟩ = some (.int .i64 c.tr) ∧ RdI w' A n xs ∧ Below w.heap.size w w')
      (first
        | exact ⟨c0, c1, c2, c3, c4, c5, c6, c7, c8, c9, R0.out.drew, B0.out.drew⟩
        | (go_split_ands; exact ⟨cell_keep hb5 (by assumption), cell_keep hb5 (by assumption), cell_keep hb5 (by assumption), cell_keep hb5 (by assumption), cell_keep hb5 (by assumption), cell_keep hb5 (by assumption), cell_keep hb5 (by assumption), cell_keep hb5 (by assumption), cell_keep hb5 (by assumption), cell_keep hb5 (by assumption), RdI.below (by assumption) hb5, below_next (by assumption) hb5⟩))
      (first
        | (go_at_call 31; refine (words_any c _).mono ?_; rintro e w5 ⟨rfl, hb5⟩)
        | (go_split_ands; go_at_call 12; refine (need_any c A n cap xs _ (by assumption)).mono ?_; rintro e w5 ⟨rfl, hb5⟩))
    all_goals
      go_wp2_with fail
      go_split_ands
      go_ret
      exact ⟨rfl, by first | assumption | exact below_next B0.out.drew hb5 | exact below_next B0.out hb5⟩
  · have hd : decide (0 < c.words) = false := decide_eq_false hw
    have hf : c.fits xs n = false := by unfold Cfg.fits; rw [hd, Bool.false_and]
    rw [hf]
    clear hf hw
    go_enter Try.func13, Try.ntmps13
    go_wp2_with fail
    have c0 : (w.alloc (.cells c.cells 23)).cell? ⟨w.heap.size, 0, none⟩ = some (.int .i64 c.p) := cell_of_row _ _ _ _ _ _ A0.out
    have c1 : (w.alloc (.cells c.cells 23)).cell? ⟨w.heap.size, 1, none⟩ = some (.int .i64 c.t) := cell_of_row _ _ _ _ _ _ A0.out
    have c2 : (w.alloc (.cells c.cells 23)).cell? ⟨w.heap.size, 2, none⟩ = some (.int .i64 c.w) := cell_of_row _ _ _ _ _ _ A0.out
    have c3 : (w.alloc (.cells c.cells 23)).cell? ⟨w.heap.size, 3, none⟩ = some (.int .i64 c.q) := cell_of_row _ _ _ _ _ _ A0.out
    have c4 : (w.alloc (.cells c.cells 23)).cell? ⟨w.heap.size, 4, none⟩ = some (.int .i64 c.g) := cell_of_row _ _ _ _ _ _ A0.out
    have c5 : (w.alloc (.cells c.cells 23)).cell? ⟨w.heap.size, 5, none⟩ = some (.int .i64 c.cap) := cell_of_row _ _ _ _ _ _ A0.out
    have c6 : (w.alloc (.cells c.cells 23)).cell? ⟨w.heap.size, 6, none⟩ = some (.int .i64 c.tax) := cell_of_row _ _ _ _ _ _ A0.out
    have c7 : (w.alloc (.cells c.cells 23)).cell? ⟨w.heap.size, 7, none⟩ = some (.int .i64 c.ch) := cell_of_row _ _ _ _ _ _ A0.out
    have c8 : (w.alloc (.cells c.cells 23)).cell? ⟨w.heap.size, 8, none⟩ = some (.int .i64 c.st) := cell_of_row _ _ _ _ _ _ A0.out
    have c9 : (w.alloc (.cells c.cells 23)).cell? ⟨w.heap.size, 9, none⟩ = some (.int .i64 c.tr) := cell_of_row _ _ _ _ _ _ A0.out
    first
      | (go_region_with (first
        | (go_at_call 31; refine (words_any c _).mono ?_; rintro e w5 ⟨rfl, hb5⟩)))
      | fail
    all_goals
      go_wp2_with fail
      go_split_ands
      go_ret
      exact ⟨rfl, by first | assumption | exact below_next B0.out.drew hb5 | exact below_next B0.out hb5⟩
end Go.Proofs.Ytbbdjfbhidpeiaa
