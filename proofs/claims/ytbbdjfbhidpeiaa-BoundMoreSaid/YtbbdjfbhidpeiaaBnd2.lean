/- What bound.Units, Rounds and Fits come to. -/
import Derived.Test.YtbbdjfbhidpeiaaBnd1
namespace Go.Proofs.Ytbbdjfbhidpeiaa
open Go.RowKit

def Cfg.units (c : Cfg) : Int := if c.wrong = 0 then c.p * 32 + c.p * 32 / 2 * c.p + c.p else 0
def Cfg.rounds (c : Cfg) : Int := if c.wrong = 0 then c.units / 64 + 12 else 0
def Cfg.fits (c : Cfg) (xs : List Int) (n : Nat) : Bool := decide (0 < c.words) && decide (c.need xs n ≤ c.p)
theorem Cfg.units_bd (c : Cfg) : 0 ≤ c.units ∧ c.units ≤ 67648 := by
  unfold Cfg.units
  split
  · rename_i h
    have := (Cfg.wrong_zero h).1.p
    have h1 : c.p * 32 / 2 = c.p * 16 := by omega
    have h2 : 0 ≤ c.p * 16 * c.p := Int.mul_nonneg (by omega) (by omega)
    have h3 : c.p * 16 * c.p ≤ 1024 * 64 := Int.mul_le_mul (by omega) (by omega) (by omega) (by omega)
    rw [h1]; omega
  · omega

theorem units_any (c : Cfg) (w : World) :
    Calls Try.prog 10 #[.agg c.cells] w fun e w' => e = .returned (.int .i64 c.units) ∧ Below w.heap.size w w' := by
  have A0 := Lib.hid (heap_alloc_new w (.cells c.cells 23))
  have B0 := Lib.hid (below_alloc0 w (.cells c.cells 23))
  by_cases h : c.wrong = 0
  · have hp := (Cfg.wrong_zero h).1.p
    have hu : c.units = c.p * 32 + c.p * 16 * c.p + c.p := by unfold Cfg.units; rw [if_pos h, show c.p * 32 / 2 = c.p * 16 by omega]
    have hw : c.words = c.p * 32 := by unfold Cfg.words; rw [if_pos h]
    have h2 : 0 ≤ c.p * 16 * c.p := Int.mul_nonneg (by omega) (by omega)
    have h3 : c.p * 16 * c.p ≤ 1024 * 64 := Int.mul_le_mul (by omega) (by omega) (by omega) (by omega)
    have hz : (c.p * 32 == 0) = false := by simp; omega
    have hq : c.p * 32 / 2 = c.p * 16 := by omega
    have HH := Lib.hid h
    clear h
    go_enter Try.func10, Try.ntmps10
    go_wp2_with (first
      | (go_at_call 31; refine (words_any c _).mono ?_; rintro e w1 ⟨rfl, hb1⟩; rw [hw]; have A1 := Lib.hid (keep hb1 A0.out); have B1 := Lib.hid (below_next B0.out hb1); clear hb1; have c0 : w1.cell? ⟨w.heap.size, 0, none⟩ = some (.int .i64 c.p) := cell_of_row _ _ _ _ _ _ A1.out)
      | (refine wpList_load_row rfl 23 _ rfl w.heap.size rfl 23 c.cells (0, 0) _ (heap_alloc_new w _) Try.underlying23 rfl (by kernel_rfl) ?_))
    go_ret
    exact ⟨ret_int hu.symm, B1.out⟩
  · have hu : c.units = 0 := by unfold Cfg.units; rw [if_neg h]
    have hz : (c.words == 0) = true := by simp [Cfg.words, h]
    clear h
    go_enter Try.func10, Try.ntmps10
    go_wp2_with (first
      | (go_at_call 31; refine (words_any c _).mono ?_; rintro e w1 ⟨rfl, hb1⟩; have B1 := Lib.hid (below_next B0.out hb1); clear hb1)
      | (refine wpList_load_row rfl 23 _ rfl w.heap.size rfl 23 c.cells (0, 0) _ (heap_alloc_new w _) Try.underlying23 rfl (by kernel_rfl) ?_))
    go_ret
    exact ⟨ret_int hu.symm, B1.out⟩

theorem rounds_any (c : Cfg) (w : World) :
    Calls Try.prog 11 #[.agg c.cells] w fun e w' => e = .returned (.int .i64 c.rounds) ∧ Below w.heap.size w w' := by
  have A0 := Lib.hid (heap_alloc_new w (.cells c.cells 23))
  have B0 := Lib.hid (below_alloc0 w (.cells c.cells 23))
  have hub := c.units_bd
  by_cases h : c.wrong = 0
  · have hp := (Cfg.wrong_zero h).1.p
    have hu : c.rounds = c.units / 64 + 12 := by unfold Cfg.rounds; rw [if_pos h]
    have hz : (c.words == 0) = false := by
      have : c.words = c.p * 32 := by unfold Cfg.words; rw [if_pos h]
      rw [this]; simp; omega
    clear h hp
    go_enter Try.func11, Try.ntmps11
    go_wp2_with (first
      | (go_at_call 31; refine (words_any c _).mono ?_; rintro e w1 ⟨rfl, hb1⟩; have A1 := Lib.hid (keep hb1 A0.out); have B1 := Lib.hid (below_next B0.out hb1); clear hb1)
      | (go_at_call 10; refine (units_any c _).mono ?_; rintro e w2 ⟨rfl, hb1⟩; have B2 := Lib.hid (below_next B1.out hb1); clear hb1)
      | (refine wpList_load_row rfl 23 _ rfl w.heap.size rfl 23 c.cells (0, 0) _ ?_ Try.underlying23 rfl (by kernel_rfl) ?_; exact Hid.out (by assumption)))
    go_ret
    exact ⟨ret_int hu.symm, B2.out⟩
  · have hu : c.rounds = 0 := by unfold Cfg.rounds; rw [if_neg h]
    have hz : (c.words == 0) = true := by simp [Cfg.words, h]
    clear h
    go_enter Try.func11, Try.ntmps11
    go_wp2_with (first
      | (go_at_call 31; refine (words_any c _).mono ?_; rintro e w1 ⟨rfl, hb1⟩; have B1 := Lib.hid (below_next B0.out hb1); clear hb1)
      | (refine wpList_load_row rfl 23 _ rfl w.heap.size rfl 23 c.cells (0, 0) _ (heap_alloc_new w _) Try.underlying23 rfl (by kernel_rfl) ?_))
    go_ret
    exact ⟨ret_int hu.symm, B1.out⟩
end Go.Proofs.Ytbbdjfbhidpeiaa
