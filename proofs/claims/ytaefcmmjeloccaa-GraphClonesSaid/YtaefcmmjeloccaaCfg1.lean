/- What config.spans and calc.Clamp come to. -/
import Derived.Test.YtaefcmmjeloccaaRows
import Derived.Test.YtaefcmmjeloccaaKit
import Derived.Test.YtaefcmmjeloccaaCfg0
namespace Go.Proofs.Ytaefcmmjeloccaa
open Go.RowKit

set_option maxHeartbeats 400000 in
theorem clamp_any (a b c : Int) (w : World) :
    Calls Try.prog 41 #[.int .i64 a, .int .i64 b, .int .i64 c] w fun e w' => e = .returned (.int .i64 (clampI a b c)) ∧ w = w' := by
  by_cases h1 : a < b
  · go_enter Try.func41, Try.ntmps41
    go_wp2
    go_ret
    exact ⟨ret_int (by unfold clampI; rw [if_pos h1]), rfl⟩
  · by_cases h2 : c < a
    · go_enter Try.func41, Try.ntmps41
      go_wp2
      go_ret
      exact ⟨ret_int (by unfold clampI; rw [if_neg (by omega), if_pos h2]), rfl⟩
    · go_enter Try.func41, Try.ntmps41
      go_wp2
      go_ret
      exact ⟨ret_int (by unfold clampI; rw [if_neg (by omega), if_neg (by omega)]), rfl⟩

def spansC (b : Nat) : Array Value := #[.pointer (some ⟨b, 0, none⟩), .int .i64 2, .int .i64 64, .pointer (some ⟨b, 1, none⟩), .int .i64 1, .int .i64 8, .pointer (some ⟨b, 2, none⟩), .int .i64 1, .int .i64 64, .pointer (some ⟨b, 3, none⟩), .int .i64 1, .int .i64 16, .pointer (some ⟨b, 4, none⟩), .int .i64 0, .int .i64 1000, .pointer (some ⟨b, 5, none⟩), .int .i64 0, .int .i64 65535, .pointer (some ⟨b, 6, none⟩), .int .i64 0, .int .i64 64, .pointer (some ⟨b, 7, none⟩), .int .i64 1, .int .i64 16, .pointer (some ⟨b, 8, none⟩), .int .i64 1, .int .i64 256, .pointer (some ⟨b, 9, none⟩), .int .i64 0, .int .i64 64]

set_option maxHeartbeats 1000000 in
set_option maxRecDepth 100000 in
theorem spans_any (b : Nat) (w : World) :
    Calls Try.prog 40 #[.pointer (some ⟨b, 0, none⟩)] w fun e w' => e = .returned (.agg (spansC b)) ∧ Below w.heap.size w w' := by
  go_enter Try.func40, Try.ntmps40
  go_wp2
  go_still_tail 41, (by kernel_rfl)
  change wpList _ _ _ _ _ (World.drew _)
  refine wpList_store_row rfl 90 _ _ rfl w.heap.size (spansC b) rfl rfl 90 _ (heap_alloc_new w _) (by kernel_rfl) rfl (by kernel_rfl) ?_
  go_wp2_with fail
  exact bodyPost_ret (v := .agg (spansC b)) (results_cell_row rfl _ _ w.heap.size 90 (spansC b) _ _ rfl (heap_setRow_same _ (heap_alloc_new w _)) Try.underlying90 rfl (by kernel_rfl)) rfl
    ⟨rfl, below_setRow ((below_alloc0 w _).drew) (Nat.le_refl _) _⟩
end Go.Proofs.Ytaefcmmjeloccaa
