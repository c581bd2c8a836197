/- The reference's classes come to the same plain functions. -/
import Derived.Test.YtbbdjfbhidpeiaaCls1
namespace Go.Proofs.Ytbbdjfbhidpeiaa
open Go.RowKit

set_option maxHeartbeats 1000000 in
theorem rsize_any (k : Int) (w : World) :
    Calls Try.prog 58 #[.int .i64 k] w fun e w' => e = .returned (.int .i64 (sizeI k)) ∧ Below w.heap.size w w' := by
  by_cases h : 1 ≤ k ∧ k ≤ 4
  · have hc : k = 1 ∨ k = 2 ∨ k = 3 ∨ k = 4 := by omega
    clear h
    rcases hc with rfl | rfl | rfl | rfl
    all_goals
      go_enter Try.func58, Try.ntmps58
      go_wp2_with fail
      go_ret
      exact ⟨rfl, below_alloc0 w _⟩
  · have hs := Lib.hid (sizeI_zero (k := k) (by omega))
    by_cases h1 : k < 1
    · clear h
      go_enter Try.func58, Try.ntmps58
      go_wp2_with fail
      go_ret
      exact ⟨ret_int hs.out.symm, below_alloc0 w _⟩
    · have h2 : 4 < k := by omega
      clear h
      go_enter Try.func58, Try.ntmps58
      go_wp2_with fail
      go_ret
      exact ⟨ret_int hs.out.symm, below_alloc0 w _⟩

set_option maxHeartbeats 1000000 in
theorem rof_any (n : Int) (w : World) :
    Calls Try.prog 36 #[.int .i64 n] w fun e w' => e = .returned (.int .i64 (ofI n)) ∧ Below w.heap.size w w' := by
  by_cases h0 : n < 0
  · have hs := Lib.hid (ofI_out (n := n) (.inl h0))
    go_enter Try.func36, Try.ntmps36
    go_wp2_with fail
    go_ret
    exact ⟨ret_int hs.out.symm, Below.refl _ _⟩
  by_cases h1 : 127 < n
  · have hs := Lib.hid (ofI_out (n := n) (.inr h1))
    go_enter Try.func36, Try.ntmps36
    go_wp2_with fail
    go_ret
    exact ⟨ret_int hs.out.symm, Below.refl _ _⟩
  go_enter Try.func36, Try.ntmps36
  go_wp2_with fail
  go_loopw [3] (fun i wr => ∃ k : Int, 1 ≤ k ∧ k ≤ 5 ∧ i = .int .i64 k ∧ Hid (∀ j : Int, 1 ≤ j → j < k → sizeI j < n + 1) ∧ Hid (Below w.heap.size w wr)) (fun i _ => (5 - intOf i).toNat)
  case atStart => exact ⟨1, by omega, by omega, rfl, fun j hj1 hj2 => absurd hj1 (by omega), Lib.hid (Below.refl _ _)⟩
  case round =>
    obtain ⟨k, hk1, hk2, rfl, HB, HW⟩ := hrel
    have hb := sizeI_bd k
    by_cases h5 : k ≤ 4
    · by_cases hs : n < sizeI k
      · have HE := Lib.hid (ofI_first (n := n) (k := k) (by omega) (by omega) hk1 hk2 HB.out (.inr (by omega)))
        go_wp2_with (go_at_call 58; refine (rsize_any k _).mono ?_; rintro e w1 ⟨rfl, hb1⟩)
        go_ret
        exact ⟨ret_int HE.out.symm, below_next HW.out hb1⟩
      · have HB' : Hid (∀ j : Int, 1 ≤ j → j < k + 1 → sizeI j < n + 1) := fun j hj1 hj2 => by
          by_cases e : j < k
          · exact HB.out j hj1 e
          · obtain rfl : j = k := by omega
            omega
        go_wp2_with (go_at_call 58; refine (rsize_any k _).mono ?_; rintro e w1 ⟨rfl, hb1⟩)
        go_roundw
        case rel => exact ⟨k + 1, by omega, by omega, rfl, HB', below_next HW.out hb1⟩
        case measure => simp [intOf]; omega
    · have HE := Lib.hid (ofI_first (n := n) (k := k) (by omega) (by omega) hk1 hk2 HB.out (.inl (by omega)))
      have HK : Hid (k = 5) := by show k = 5; omega
      go_wp2_with fail
      go_ret
      exact ⟨ret_int (by rw [HE.out, HK.out]), HW.out⟩

set_option maxHeartbeats 1000000 in
theorem rcells_any (k : Int) (w : World) :
    Calls Try.prog 37 #[.int .i64 k] w fun e w' => e = .returned (.int .i64 (cellsI k)) ∧ Below w.heap.size w w' := by
  have HE := Lib.hid (cellsI_eq k)
  by_cases h : 1 ≤ k ∧ k ≤ 4
  · have hs := sizeI_pos h
    have h1 : (sizeI k == 0) = false := by simp; omega
    have HE2 := Lib.hid (show cellsI k = 32 / sizeI k from by rw [HE.out, if_neg (by omega)])
    clear h
    go_enter Try.func37, Try.ntmps37
    go_wp2_with (first | (go_at_call 58; (with_reducible refine (rsize_any k w).mono ?_); rintro e w1 ⟨rfl, hb1⟩) | (go_at_call 58; refine (rsize_any k _).mono ?_; rintro e w2 ⟨rfl, hb2⟩))
    go_ret
    exact ⟨ret_int HE2.out.symm, below_next hb1 hb2⟩
  · have hs := sizeI_zero (k := k) (by omega)
    have h1 : (sizeI k == 0) = true := by simp [hs]
    have HE2 := Lib.hid (show cellsI k = 0 from by rw [HE.out, if_pos hs])
    clear h hs
    go_enter Try.func37, Try.ntmps37
    go_wp2_with (go_at_call 58; refine (rsize_any k _).mono ?_; rintro e w1 ⟨rfl, hb1⟩)
    go_ret
    exact ⟨ret_int HE2.out.symm, hb1⟩

set_option maxHeartbeats 1000000 in
theorem rpages_any (n : Int) (w : World) :
    Calls Try.prog 15 #[.int .i64 n] w fun e w' => e = .returned (.int .i64 (pagesI n)) ∧ Below w.heap.size w w' := by
  by_cases h : ofI n = 5
  · have hn := pagesI_five h
    have HE := Lib.hid (show pagesI n = (n + 32) / 32 from if_pos h)
    have h1 : (ofI n != 5) = false := by simp [h]
    clear h
    go_enter Try.func15, Try.ntmps15
    go_wp2_with (go_at_call 36; refine (rof_any n _).mono ?_; rintro e w1 ⟨rfl, hb1⟩)
    go_loop [3] (fun i => ∃ p : Int, 1 ≤ p ∧ p ≤ (n + 32) / 32 ∧ i = .int .i64 p) (fun i => ((n + 32) / 32 - intOf i).toNat)
    case atStart => exact ⟨1, by omega, by omega, rfl⟩
    case round =>
      obtain ⟨p, hp1, hp2, rfl⟩ := hrel
      by_cases hlt : p * 32 < n + 1
      · go_wp2_with fail
        go_round
        case rel => exact ⟨p + 1, by omega, by omega, rfl⟩
        case measure => simp [intOf]; omega
      · go_wp2_with fail
        go_ret
        exact ⟨ret_int (by rw [HE.out]; omega), hb1⟩
  · have HE := Lib.hid (show pagesI n = 0 from if_neg h)
    have h1 : (ofI n != 5) = true := by simp [h]
    clear h
    go_enter Try.func15, Try.ntmps15
    go_wp2_with (go_at_call 36; refine (rof_any n _).mono ?_; rintro e w1 ⟨rfl, hb1⟩)
    go_ret
    exact ⟨ret_int HE.out.symm, hb1⟩
end Go.Proofs.Ytbbdjfbhidpeiaa
