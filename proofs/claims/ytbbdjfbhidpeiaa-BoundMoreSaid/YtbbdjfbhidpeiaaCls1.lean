/- What the functions of package class, and the reference's, come to. -/
import Derived.Test.YtbbdjfbhidpeiaaRows
import Derived.Test.YtbbdjfbhidpeiaaCls0
namespace Go.Proofs.Ytbbdjfbhidpeiaa
open Go.RowKit

set_option maxHeartbeats 1000000 in
theorem size_any (k : Int) (w : World) :
    Calls Try.prog 34 #[.int .i64 k] w fun e w' => e = .returned (.int .i64 (sizeI k)) ∧ w = w' := by
  by_cases h : 1 ≤ k ∧ k ≤ 4
  · have hc : k = 1 ∨ k = 2 ∨ k = 3 ∨ k = 4 := by omega
    clear h
    rcases hc with rfl | rfl | rfl | rfl
    all_goals
      go_enter Try.func34, Try.ntmps34
      go_wp2_with fail
      go_ret
      exact ⟨rfl, rfl⟩
  · have hs := Lib.hid (sizeI_zero (k := k) (by omega))
    by_cases h1 : k < 1
    · clear h
      go_enter Try.func34, Try.ntmps34
      go_wp2_with fail
      go_ret
      exact ⟨ret_int hs.out.symm, rfl⟩
    · have h2 : 5 ≤ k := by omega
      clear h
      go_enter Try.func34, Try.ntmps34
      go_wp2_with fail
      go_ret
      exact ⟨ret_int hs.out.symm, rfl⟩

set_option maxHeartbeats 1000000 in
theorem of_any (n : Int) (w : World) :
    Calls Try.prog 32 #[.int .i64 n] w fun e w' => e = .returned (.int .i64 (ofI n)) ∧ w = w' := by
  by_cases h0 : n < 0
  · have hs := Lib.hid (ofI_out (n := n) (.inl h0))
    go_enter Try.func32, Try.ntmps32
    go_wp2_with fail
    go_ret
    exact ⟨ret_int hs.out.symm, rfl⟩
  by_cases h1 : 127 < n
  · have hs := Lib.hid (ofI_out (n := n) (.inr h1))
    go_enter Try.func32, Try.ntmps32
    go_wp2_with fail
    go_ret
    exact ⟨ret_int hs.out.symm, rfl⟩
  go_enter Try.func32, Try.ntmps32
  go_wp2_with fail
  go_loop [3] (fun i => ∃ k : Int, 1 ≤ k ∧ k ≤ 5 ∧ i = .int .i64 k ∧ Hid (∀ j : Int, 1 ≤ j → j < k → sizeI j < n + 1)) (fun i => (5 - intOf i).toNat)
  case atStart => exact ⟨1, by omega, by omega, rfl, fun j hj1 hj2 => absurd hj1 (by omega)⟩
  case round =>
    obtain ⟨k, hk1, hk2, rfl, HB⟩ := hrel
    have hb := sizeI_bd k
    by_cases h5 : k < 5
    · by_cases hs : sizeI k < n + 1
      · have HB' : Hid (∀ j : Int, 1 ≤ j → j < k + 1 → sizeI j < n + 1) := fun j hj1 hj2 => by
          by_cases e : j < k
          · exact HB.out j hj1 e
          · obtain rfl : j = k := by omega
            exact hs
        have d5 : decide (k < 5) = true := by simpa using h5
        have ds : decide (sizeI k < n + 1) = true := by simpa using hs
        go_wp2_with (go_at_call 34; refine (size_any k _).mono ?_; rintro e w1 ⟨rfl, rfl⟩)
        go_round
        case rel => exact ⟨k + 1, by omega, by omega, rfl, HB'⟩
        case measure => simp [intOf]; omega
      · have HE := Lib.hid (ofI_first (n := n) (k := k) (by omega) (by omega) hk1 hk2 HB.out (.inr (by omega)))
        have d5 : decide (k < 5) = true := by simpa using h5
        have ds : decide (sizeI k < n + 1) = false := by simpa using hs
        go_wp2_with (go_at_call 34; refine (size_any k _).mono ?_; rintro e w1 ⟨rfl, rfl⟩)
        go_ret
        exact ⟨ret_int HE.out.symm, rfl⟩
    · have HE := Lib.hid (ofI_first (n := n) (k := k) (by omega) (by omega) hk1 hk2 HB.out (.inl (by omega)))
      have d5 : decide (k < 5) = false := by simpa using h5
      go_wp2_with fail
      go_ret
      exact ⟨ret_int HE.out.symm, rfl⟩

set_option maxHeartbeats 1000000 in
theorem pages_any (n : Int) (w : World) :
    Calls Try.prog 33 #[.int .i64 n] w fun e w' => e = .returned (.int .i64 (pagesI n)) ∧ w = w' := by
  by_cases h : ofI n = 5
  · have hn := pagesI_five h
    have HE := Lib.hid (show pagesI n = (n + 32) / 32 from if_pos h)
    have h1 : (ofI n != 5) = false := by simp [h]
    clear h
    go_enter Try.func33, Try.ntmps33
    go_wp2_with (go_at_call 32; refine (of_any n _).mono ?_; rintro e w1 ⟨rfl, rfl⟩)
    go_ret
    exact ⟨ret_int HE.out.symm, rfl⟩
  · have HE := Lib.hid (show pagesI n = 0 from if_neg h)
    have h1 : (ofI n != 5) = true := by simp [h]
    clear h
    go_enter Try.func33, Try.ntmps33
    go_wp2_with (go_at_call 32; refine (of_any n _).mono ?_; rintro e w1 ⟨rfl, rfl⟩)
    go_ret
    exact ⟨ret_int HE.out.symm, rfl⟩

set_option maxHeartbeats 1000000 in
theorem cells_any (k : Int) (w : World) :
    Calls Try.prog 35 #[.int .i64 k] w fun e w' => e = .returned (.int .i64 (cellsI k)) ∧ w = w' := by
  have HE := Lib.hid (cellsI_eq k)
  by_cases h : 1 ≤ k ∧ k ≤ 4
  · have hs := sizeI_pos h
    have h1 : (sizeI k == 0) = false := by simp; omega
    have HE2 := Lib.hid (show cellsI k = 32 / sizeI k from by rw [HE.out, if_neg (by omega)])
    clear h
    go_enter Try.func35, Try.ntmps35
    go_wp2_with (go_at_call 34; refine (size_any k _).mono ?_; rintro e w1 ⟨rfl, rfl⟩)
    go_ret
    exact ⟨ret_int HE2.out.symm, rfl⟩
  · have hs := sizeI_zero (k := k) (by omega)
    have h1 : (sizeI k == 0) = true := by simp [hs]
    have HE2 := Lib.hid (show cellsI k = 0 from by rw [HE.out, if_pos hs])
    clear h hs
    go_enter Try.func35, Try.ntmps35
    go_wp2_with (go_at_call 34; refine (size_any k _).mono ?_; rintro e w1 ⟨rfl, rfl⟩)
    go_ret
    exact ⟨ret_int HE2.out.symm, rfl⟩
end Go.Proofs.Ytbbdjfbhidpeiaa
