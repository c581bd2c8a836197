/- scutageref40.Line. -/
import Derived.Test.YtffdekgkhiffkaaDoorScr3
import Derived.Test.YtffdekgkhiffkaaDoorStp3
namespace Go.Proofs.YtffdekgkhiffkaaDoor
open Go.RowKit

def wordC : Array Value := #[.string (S []), .string (S (wordI 1)), .string (S (wordI 2)), .string (S (wordI 3)), .string (S (wordI 4)), .string (S (wordI 5)), .string (S (wordI 6)), .string (S (wordI 7)), .string (S (wordI 8)), .string (S (wordI 9)), .string (S (wordI 10)), .string (S (wordI 11)), .string (S (wordI 12)), .string (S (wordI 13)), .string (S (wordI 14)), .string (S (wordI 15)), .string (S (wordI 16)), .string (S (wordI 17))]
theorem wordC_get : ∀ k : Nat, k < 18 → wordC[k]? = some (.string (S (wordI k)))
  | 0, _ | 1, _ | 2, _ | 3, _ | 4, _ | 5, _ | 6, _ | 7, _ | 8, _ | 9, _ | 10, _ | 11, _ | 12, _ | 13, _ | 14, _ | 15, _ | 16, _ | 17, _ => rfl
  | j + 18, h => absurd h (by omega)
set_option maxHeartbeats 1000000 in
set_option maxRecDepth 100000 in
theorem word_eq (k : Nat) (h : k < 18) (w : World) :
    Calls Tryd.prog 22 #[.int .i64 (k : Int)] w fun e w' => e = .returned (.string (S (wordI k))) ∧ w' = w.alloc (.cells wordC 80) := by
  have i1 : (0 : Int) ≤ (k : Int) := by omega
  have i2 : (k : Int) < 18 := by omega
  have r0 : (w.alloc (.cells wordC 80)).cell? ⟨w.heap.size, k, none⟩ = some (.string (S (wordI k))) := by rw [cell_of_row _ _ _ _ _ _ (heap_alloc_new w _)]; exact wordC_get k h
  go_enter Tryd.func22, Tryd.ntmps22
  go_wp2_with (refine wpList_store_new rfl 80 _ _ rfl wordC rfl rfl 80 _ (by kernel_rfl) rfl (by kernel_rfl) ?_)
  go_ret
  exact ⟨rfl, rfl⟩
theorem word_any (k : Nat) (h : k < 18) (w : World) :
    Calls Tryd.prog 22 #[.int .i64 (k : Int)] w fun e w' => e = .returned (.string (S (wordI k))) ∧ Below w.heap.size w w' :=
  (word_eq k h w).mono fun e w' ⟨he, hw⟩ => ⟨he, by rw [hw]; exact below_alloc0 w _⟩
set_option maxHeartbeats 8000000 in
set_option maxRecDepth 100000 in
theorem rhas_eq (k : Int) (h : 1 ≤ k ∧ k ≤ 17) (w : World) :
    Calls Tryd.prog 21 #[.int .i64 k] w fun e w' => e = .returned (.agg (Stp.hasV k)) ∧ w' = w.alloc (.cells (Stp.hasV k) 54) := by
  have hc : k = 1 ∨ k = 2 ∨ k = 3 ∨ k = 4 ∨ k = 5 ∨ k = 6 ∨ k = 7 ∨ k = 8 ∨ k = 9 ∨ k = 10 ∨ k = 11 ∨ k = 12 ∨ k = 13 ∨ k = 14 ∨ k = 15 ∨ k = 16 ∨ k = 17 := by omega
  clear h
  rcases hc with rfl | rfl | rfl | rfl | rfl | rfl | rfl | rfl | rfl | rfl | rfl | rfl | rfl | rfl | rfl | rfl | rfl
  all_goals
    go_enter Tryd.func21, Tryd.ntmps21
    go_wp2_with fail
    exact bodyPost_ret (v := .agg (Stp.hasV _)) (results_cell_row rfl _ _ w.heap.size 54 (Stp.hasV _) _ _ rfl (heap_alloc_new w _) Tryd.underlying54 rfl (by kernel_rfl)) rfl ⟨rfl, rfl⟩

end Go.Proofs.YtffdekgkhiffkaaDoor
