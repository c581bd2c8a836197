/- What package class says of a class of cells. -/
import Derived.Test.YtfocdbflmodfhaaDoorRows
import Derived.Test.YtfocdbflmodfhaaDoorCls0
namespace Go.Proofs.YtfocdbflmodfhaaDoor
open Go.RowKit

set_option maxHeartbeats 1000000 in
theorem size_any (k : Int) (w : World) :
    Calls Tryd.prog 41 #[.int .i64 k] w fun e w' => e = .returned (.int .i64 (sizeI k)) ∧ w = w' := by
  by_cases h : 1 ≤ k ∧ k ≤ 4
  · have hc : k = 1 ∨ k = 2 ∨ k = 3 ∨ k = 4 := by omega
    clear h
    rcases hc with rfl | rfl | rfl | rfl
    all_goals
      go_enter Tryd.func41, Tryd.ntmps41
      go_wp2_with fail
      go_ret
      exact ⟨rfl, rfl⟩
  · have hs := Lib.hid (sizeI_zero (k := k) (by omega))
    by_cases h1 : k < 1
    · clear h
      go_enter Tryd.func41, Tryd.ntmps41
      go_wp2_with fail
      go_ret
      exact ⟨ret_int hs.out.symm, rfl⟩
    · have h2 : 5 ≤ k := by omega
      clear h
      go_enter Tryd.func41, Tryd.ntmps41
      go_wp2_with fail
      go_ret
      exact ⟨ret_int hs.out.symm, rfl⟩

set_option maxHeartbeats 1000000 in
theorem cells_any (k : Int) (w : World) :
    Calls Tryd.prog 50 #[.int .i64 k] w fun e w' => e = .returned (.int .i64 (cellsI k)) ∧ w = w' := by
  have HE := Lib.hid (cellsI_eq k)
  by_cases h : 1 ≤ k ∧ k ≤ 4
  · have hs := sizeI_pos h
    have h1 : (sizeI k == 0) = false := by simp; omega
    have HE2 := Lib.hid (show cellsI k = 32 / sizeI k from by rw [HE.out, if_neg (by omega)])
    clear h
    go_enter Tryd.func50, Tryd.ntmps50
    go_wp2_with (go_at_call 41; refine (size_any k _).mono ?_; rintro e w1 ⟨rfl, rfl⟩)
    go_ret
    exact ⟨ret_int HE2.out.symm, rfl⟩
  · have hs := sizeI_zero (k := k) (by omega)
    have h1 : (sizeI k == 0) = true := by simp [hs]
    have HE2 := Lib.hid (show cellsI k = 0 from by rw [HE.out, if_pos hs])
    clear h hs
    go_enter Tryd.func50, Tryd.ntmps50
    go_wp2_with (go_at_call 41; refine (size_any k _).mono ?_; rintro e w1 ⟨rfl, rfl⟩)
    go_ret
    exact ⟨ret_int HE2.out.symm, rfl⟩
end Go.Proofs.YtfocdbflmodfhaaDoor
