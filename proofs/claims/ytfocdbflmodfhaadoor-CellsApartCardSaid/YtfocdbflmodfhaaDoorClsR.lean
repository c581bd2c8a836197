/- .. and the reference. -/
import Derived.Test.YtfocdbflmodfhaaDoorClsS
namespace Go.Proofs.YtfocdbflmodfhaaDoor
open Go.RowKit

set_option maxHeartbeats 1000000 in
theorem rsize_any (k : Int) (w : World) :
    Calls Tryd.prog 15 #[.int .i64 k] w fun e w' => e = .returned (.int .i64 (sizeI k)) ∧ Below w.heap.size w w' := by
  by_cases h : 1 ≤ k ∧ k ≤ 4
  · have hc : k = 1 ∨ k = 2 ∨ k = 3 ∨ k = 4 := by omega
    clear h
    rcases hc with rfl | rfl | rfl | rfl
    all_goals
      go_enter Tryd.func15, Tryd.ntmps15
      go_wp2_with fail
      go_ret
      exact ⟨rfl, below_alloc0 w _⟩
  · have hs := Lib.hid (sizeI_zero (k := k) (by omega))
    by_cases h1 : k < 1
    · clear h
      go_enter Tryd.func15, Tryd.ntmps15
      go_wp2_with fail
      go_ret
      exact ⟨ret_int hs.out.symm, below_alloc0 w _⟩
    · have h2 : 4 < k := by omega
      clear h
      go_enter Tryd.func15, Tryd.ntmps15
      go_wp2_with fail
      go_ret
      exact ⟨ret_int hs.out.symm, below_alloc0 w _⟩

set_option maxHeartbeats 1000000 in
theorem rcells_any (k : Int) (w : World) :
    Calls Tryd.prog 89 #[.int .i64 k] w fun e w' => e = .returned (.int .i64 (cellsI k)) ∧ Below w.heap.size w w' := by
  have HE := Lib.hid (cellsI_eq k)
  by_cases h : 1 ≤ k ∧ k ≤ 4
  · have hs := sizeI_pos h
    have h1 : (sizeI k == 0) = false := by simp; omega
    have HE2 := Lib.hid (show cellsI k = 32 / sizeI k from by rw [HE.out, if_neg (by omega)])
    clear h
    go_enter Tryd.func89, Tryd.ntmps89
    go_wp2_with (first | (go_at_call 15; (with_reducible refine (rsize_any k w).mono ?_); rintro e w1 ⟨rfl, hb1⟩) | (go_at_call 15; refine (rsize_any k _).mono ?_; rintro e w2 ⟨rfl, hb2⟩))
    go_ret
    exact ⟨ret_int HE2.out.symm, below_next hb1 hb2⟩
  · have hs := sizeI_zero (k := k) (by omega)
    have h1 : (sizeI k == 0) = true := by simp [hs]
    have HE2 := Lib.hid (show cellsI k = 0 from by rw [HE.out, if_pos hs])
    clear h hs
    go_enter Tryd.func89, Tryd.ntmps89
    go_wp2_with (go_at_call 15; refine (rsize_any k _).mono ?_; rintro e w1 ⟨rfl, hb1⟩)
    go_ret
    exact ⟨ret_int HE2.out.symm, hb1⟩

end Go.Proofs.YtfocdbflmodfhaaDoor
