/- What code.fields, code.small and code.Check come to. -/
import Derived.Test.YtaefcmmjeloccaaRows
import Derived.Test.YtaefcmmjeloccaaStp0
namespace Go.Proofs.Ytaefcmmjeloccaa
open Go.RowKit

def hasArr : Array Value := #[.int .i64 0, .int .i64 1, .int .i64 1, .int .i64 49, .int .i64 33, .int .i64 1, .int .i64 1, .int .i64 3, .int .i64 1, .int .i64 7, .int .i64 15, .int .i64 11, .int .i64 3, .int .i64 33, .int .i64 1, .int .i64 49, .int .i64 32, .int .i64 0]

theorem has_index (w : World) : ∀ k : Nat, k < 18 → (Instr.index 108 (.agg hasArr) (.int .i64 k)).run Try.prog w = .ok (.int .i64 (Stp.hasW k)) w
  | 0, _ | 1, _ | 2, _ | 3, _ | 4, _ | 5, _ | 6, _ | 7, _ | 8, _ | 9, _ | 10, _ | 11, _ | 12, _ | 13, _ | 14, _ | 15, _ | 16, _ | 17, _ => by kernel_rfl
  | _ + 18, h => absurd h (by omega)

set_option maxHeartbeats 400000 in
set_option maxRecDepth 100000 in
theorem fields_any (k : Int) (h0 : 0 ≤ k) (h1 : k < 18) (w : World) :
    Calls Try.prog 42 #[.int .i64 k] w fun e w' => e = .returned (.int .i64 (Stp.hasW k.toNat)) ∧ w = w' := by
  obtain ⟨n, rfl⟩ := Int.eq_ofNat_of_zero_le h0
  rw [Int.toNat_natCast]
  have hix := has_index w n (by omega)
  unfold hasArr at hix
  go_enter Try.func42, Try.ntmps42
  go_wp2_with fail
  go_ret
  exact ⟨rfl, rfl⟩

theorem stp_cell {x : Stp} {w1 : World} {g : Nat} (h : w1.heap[g]? = some (.cells x.cells 39 (0, 0))) :
    w1.cell? ⟨g, 0, none⟩ = some (.int .i64 x.k) ∧ w1.cell? ⟨g, 1, none⟩ = some (.int .i64 x.t) ∧ w1.cell? ⟨g, 2, none⟩ = some (.int .i64 x.i) ∧ w1.cell? ⟨g, 3, none⟩ = some (.int .i64 x.f) ∧
    w1.cell? ⟨g, 4, none⟩ = some (.int .i64 x.j) ∧ w1.cell? ⟨g, 5, none⟩ = some (.int .i64 x.c) ∧ w1.cell? ⟨g, 6, none⟩ = some (.int .i64 x.n) :=
  ⟨cell_of_row _ _ _ _ _ _ h, cell_of_row _ _ _ _ _ _ h, cell_of_row _ _ _ _ _ _ h, cell_of_row _ _ _ _ _ _ h, cell_of_row _ _ _ _ _ _ h, cell_of_row _ _ _ _ _ _ h, cell_of_row _ _ _ _ _ _ h⟩

set_option maxHeartbeats 400000 in
set_option maxRecDepth 100000 in
theorem small_any (x : Stp) (w : World) :
    Calls Try.prog 43 #[.agg x.cells] w fun e w' => e = .returned (.agg x.small) ∧ Below w.heap.size w w' := by
  obtain ⟨c0, c1, c2, c3, c4, c5, c6⟩ := x.get
  go_enter Try.func43, Try.ntmps43
  go_wp2_with (refine wpList_store_new rfl 95 _ _ rfl x.small rfl rfl 95 _ (by kernel_rfl) rfl (by kernel_rfl) ?_)
  exact bodyPost_ret (v := .agg x.small) (results_cell_row rfl _ _ (w.heap.size + 1) 95 x.small _ _ rfl (heap_alloc2_new w _ _) Try.underlying95 rfl (by kernel_rfl)) rfl
    ⟨rfl, below_new (below_alloc0 w _) _⟩

theorem small_index (x : Stp) (w : World) : ∀ j : Nat, j < 5 → (Instr.index 95 (.agg x.small) (.int .i64 j)).run Try.prog w = .ok (.int .i64 (x.fld j)) w
  | 0, _ | 1, _ | 2, _ | 3, _ | 4, _ => by kernel_rfl
  | _ + 5, h => absurd h (by omega)
end Go.Proofs.Ytaefcmmjeloccaa
