/- What config.Check, Words and Usual come to. -/
import Derived.Test.YtaefcmmjeloccaaCfg2
namespace Go.Proofs.Ytaefcmmjeloccaa
open Go.RowKit

theorem cfg_cell0 (c : Cfg) (w : World) {k : Nat} (hk : k < 10) : (w.alloc (.cells c.cells 23)).cell? ⟨w.heap.size, k, none⟩ = some (.int .i64 (c.fld k)) :=
  cfg_cell (Below.refl _ _) hk

def Cfg.check (c : Cfg) : Int := if c.wrong = 0 then 0 else 6
def Cfg.most (c : Cfg) : Int := if c.wrong = 0 then c.w * (1000 - c.g) / 1000 else 0
def Cfg.words (c : Cfg) : Int := if c.wrong = 0 then c.p * 32 else 0

set_option maxHeartbeats 400000 in
theorem check_any (c : Cfg) (w : World) :
    Calls Try.prog 8 #[.agg c.cells] w fun e w' => e = .returned (.int .i64 c.check) ∧ Below w.heap.size w w' := by
  by_cases h : c.wrong = 0
  · have HH := Lib.hid h
    have h1 : (c.wrong != 0) = false := by simp [h]
    clear h
    go_enter Try.func8, Try.ntmps8
    go_wp2_with (first | (go_at_call 22; refine (wrong_any _ _).mono ?_; rintro e w1 ⟨rfl, hb1⟩) | (refine wpList_load_row rfl 23 _ rfl w.heap.size rfl 23 c.cells (0, 0) _ (heap_alloc_new w _) Try.underlying23 rfl (by kernel_rfl) ?_))
    go_ret
    exact ⟨ret_int (by unfold Cfg.check; rw [if_pos HH.out]), below_up (below_alloc0 w _) (by simp) hb1⟩
  · have HH := Lib.hid h
    have h1 : (c.wrong != 0) = true := by simp [h]
    clear h
    go_enter Try.func8, Try.ntmps8
    go_wp2_with (first | (go_at_call 22; refine (wrong_any _ _).mono ?_; rintro e w1 ⟨rfl, hb1⟩) | (refine wpList_load_row rfl 23 _ rfl w.heap.size rfl 23 c.cells (0, 0) _ (heap_alloc_new w _) Try.underlying23 rfl (by kernel_rfl) ?_))
    go_ret
    exact ⟨ret_int (by unfold Cfg.check; rw [if_neg HH.out]), below_up (below_alloc0 w _) (by simp) hb1⟩

def usual : Cfg := ⟨16, 4, 20, 4, 700, 100, 4, 4, 16, 4⟩

set_option maxHeartbeats 400000 in
theorem usual_any (w : World) :
    Calls Try.prog 20 #[] w fun e w' => e = .returned (.agg usual.cells) ∧ Below w.heap.size w w' := by
  go_enter Try.func20, Try.ntmps20
  go_wp2_with (refine wpList_store_row rfl 23 _ _ rfl w.heap.size usual.cells rfl rfl 23 _ (heap_alloc_new w _) (by kernel_rfl) rfl (by kernel_rfl) ?_)
  exact bodyPost_ret (v := .agg usual.cells) (results_cell_row rfl _ _ w.heap.size 23 usual.cells _ _ rfl (heap_setRow_same _ (heap_alloc_new w _)) Try.underlying23 rfl (by kernel_rfl)) rfl
    ⟨rfl, below_setRow (below_alloc0 w _) (Nat.le_refl _) _⟩
end Go.Proofs.Ytaefcmmjeloccaa
