/- The reference's Has and Check come to the same plain functions. -/
import Derived.Test.YtaefcmmjeloccaaStp1
namespace Go.Proofs.Ytaefcmmjeloccaa
open Go.RowKit

set_option maxHeartbeats 8000000 in
set_option maxRecDepth 100000 in
theorem rhas_any (k : Int) (h : 1 ≤ k ∧ k ≤ 17) (w : World) :
    Calls Try.prog 56 #[.int .i64 k] w fun e w' => e = .returned (.agg (Stp.hasV k)) ∧ Below w.heap.size w w' := by
  have hc : k = 1 ∨ k = 2 ∨ k = 3 ∨ k = 4 ∨ k = 5 ∨ k = 6 ∨ k = 7 ∨ k = 8 ∨ k = 9 ∨ k = 10 ∨ k = 11 ∨ k = 12 ∨ k = 13 ∨ k = 14 ∨ k = 15 ∨ k = 16 ∨ k = 17 := by omega
  clear h
  rcases hc with rfl | rfl | rfl | rfl | rfl | rfl | rfl | rfl | rfl | rfl | rfl | rfl | rfl | rfl | rfl | rfl | rfl
  all_goals
    go_enter Try.func56, Try.ntmps56
    go_wp2_with fail
    exact bodyPost_ret (v := .agg (Stp.hasV _)) (results_cell_row rfl _ _ w.heap.size 110 (Stp.hasV _) _ _ rfl (heap_alloc_new w _) Try.underlying110 rfl (by kernel_rfl)) rfl ⟨rfl, below_alloc0 w _⟩

set_option maxHeartbeats 1000000 in
set_option maxRecDepth 100000 in
theorem rcheck_any (x : Stp) (w : World) :
    Calls Try.prog 49 #[.agg x.cells] w fun e w' => e = .returned (.int .i64 x.check) ∧ Below w.heap.size w w' := by
  have A0 := Lib.hid (heap_alloc_new w (.cells x.cells 39))
  have B0 := Lib.hid (below_alloc0 w (.cells x.cells 39))
  obtain ⟨g0, g1, g2, g3, g4, g5, g6⟩ := stp_cell A0.out
  by_cases hk1 : x.k < 1
  · go_enter Try.func49, Try.ntmps49
    go_wp2_with fail
    go_ret
    exact ⟨ret_int (Stp.check_kind (.inl hk1)).symm, B0.out⟩
  by_cases hk2 : 17 < x.k
  · go_enter Try.func49, Try.ntmps49
    go_wp2_with fail
    go_ret
    exact ⟨ret_int (Stp.check_kind (.inr hk2)).symm, B0.out⟩
  have hkk : 1 ≤ x.k ∧ x.k ≤ 17 := by omega
  have HK := Lib.hid hkk
  go_enter Try.func49, Try.ntmps49
  go_wp2_with fail
  obtain ⟨wx, hwx⟩ : ∃ wx, wx = (w.alloc (.cells x.cells 39)).alloc (.cells #[.int .i64 x.t, .int .i64 x.i, .int .i64 x.f, .int .i64 x.j, .int .i64 x.c] 95) := ⟨_, rfl⟩
  have A1 : Hid (wx.heap[w.heap.size]? = some (.cells x.cells 39 (0, 0))) := by rw [hwx]; exact keep_alloc _ A0.out
  have S1 : Hid (wx.heap[w.heap.size + 1]? = some (.cells x.small 95 (0, 0))) := by rw [hwx]; exact heap_alloc2_new w _ _
  have B1 : Hid (Below w.heap.size w wx) := by rw [hwx]; exact below_new B0.out _
  rw [← hwx]
  clear hwx g0 g1 g2 g3 g4 g5 g6 A0 B0
  have N0 : Hid (∀ j, j < 0 → 0 ≤ x.fld j ∧ x.fld j ≤ 255) := fun j hj => absurd hj (by omega)
  go_loop [4] (fun i => ∃ j : Nat, j ≤ 5 ∧ i = .int .i64 j ∧ Hid (∀ m, m < j → 0 ≤ x.fld m ∧ x.fld m ≤ 255)) (fun i => 5 - (intOf i).toNat)
  case atStart => exact ⟨0, by omega, rfl, N0⟩
  case round =>
    clear N0
    obtain ⟨j, hj, rfl, N⟩ := hrel
    by_cases hlt : j < 5
    · have hc : wx.cell? ⟨w.heap.size + 1, j, none⟩ = some (.int .i64 (x.fld j)) := by rw [cell_of_row _ _ _ _ _ _ S1.out]; exact x.small_get j hlt
      by_cases hb : x.fld j < 0 ∨ 255 < x.fld j
      · have HBd := Lib.hid hb
        by_cases h1 : x.fld j < 0
        · clear hb
          go_wp2_with fail
          go_ret
          exact ⟨ret_int (Stp.check_rng HK.out hlt HBd.out).symm, B1.out⟩
        · have h2 : 255 < x.fld j := by omega
          clear hb
          go_wp2_with fail
          go_ret
          exact ⟨ret_int (Stp.check_rng HK.out hlt HBd.out).symm, B1.out⟩
      · have h1 : ¬ x.fld j < 0 := by omega
        have h2 : ¬ 255 < x.fld j := by omega
        have N' : Hid (∀ m, m < j + 1 → 0 ≤ x.fld m ∧ x.fld m ≤ 255) := fun m hm => by
          by_cases e : m < j
          · exact N.out m e
          · obtain rfl : m = j := by omega
            omega
        clear hb
        go_wp2_with fail
        go_round
        case rel => exact ⟨j + 1, by omega, by go_num, N'⟩
        case measure => simp [intOf]; omega
    · obtain rfl : j = 5 := by omega
      have R : Hid x.rng := fun m hm => N.out m hm
      clear N
      obtain ⟨g0, g1, g2, g3, g4, g5, g6⟩ := stp_cell A1.out
      go_wp2_with (first
        | (go_at_call 56; refine (rhas_any x.k HK.out _).mono ?_; rintro e w3 ⟨rfl, hb3⟩)
        | (refine wpList_store_new rfl 110 _ _ rfl (Stp.hasV x.k) rfl rfl 110 _ (by kernel_rfl) rfl (by kernel_rfl) ?_))
      obtain ⟨wy, hwy⟩ : ∃ wy, wy = w3.alloc (.cells (Stp.hasV x.k) 110) := ⟨_, rfl⟩
      have A2 : Hid (wy.heap[w.heap.size]? = some (.cells x.cells 39 (0, 0))) := by rw [hwy]; exact keep_alloc _ (keep hb3 A1.out)
      have S2 : Hid (wy.heap[w.heap.size + 1]? = some (.cells x.small 95 (0, 0))) := by rw [hwy]; exact keep_alloc _ (keep hb3 S1.out)
      have V2 : Hid (wy.heap[w3.heap.size]? = some (.cells (Stp.hasV x.k) 110 (0, 0))) := by rw [hwy]; exact heap_alloc_new w3 _
      have B2 : Hid (Below w.heap.size w wy) := by rw [hwy]; exact below_new (below_next B1.out hb3) _
      rw [← hwy]
      clear hwy g0 g1 g2 g3 g4 g5 g6 A1 B1 S1 hb3
      have M0 : Hid (∀ j, j < 0 → x.fld j = 0 ∨ Stp.has x.k j = true) := fun j hj => absurd hj (by omega)
      go_loop [6] (fun i => ∃ j : Nat, j ≤ 5 ∧ i = .int .i64 j ∧ Hid (∀ m, m < j → x.fld m = 0 ∨ Stp.has x.k m = true)) (fun i => 5 - (intOf i).toNat)
      case atStart => exact ⟨0, by omega, rfl, M0⟩
      case round =>
        clear M0
        obtain ⟨j, hj, rfl, M⟩ := hrel
        by_cases hlt : j < 5
        · have hc : wy.cell? ⟨w.heap.size + 1, j, none⟩ = some (.int .i64 (x.fld j)) := by rw [cell_of_row _ _ _ _ _ _ S2.out]; exact x.small_get j hlt
          have hv : wy.cell? ⟨w3.heap.size, j, none⟩ = some (.bool (Stp.has x.k j)) := by rw [cell_of_row _ _ _ _ _ _ V2.out]; exact Stp.hasV_get x.k j (by omega)
          by_cases hz : x.fld j = 0
          · have hz1 : (x.fld j != 0) = false := by simp [hz]
            have M' : Hid (∀ m, m < j + 1 → x.fld m = 0 ∨ Stp.has x.k m = true) := fun m hm => by
              by_cases e : m < j
              · exact M.out m e
              · obtain rfl : m = j := by omega
                exact .inl hz
            clear hz
            cases hh : Stp.has x.k j
            all_goals
              rw [hh] at hv
              clear hh
              go_wp2_with fail
              go_round
              case rel => exact ⟨j + 1, by omega, by go_num, M'⟩
              case measure => simp [intOf]; omega
          · have hz1 : (x.fld j != 0) = true := by simp [hz]
            have HZ := Lib.hid hz
            clear hz
            by_cases hh : Stp.has x.k j = true
            · have M' : Hid (∀ m, m < j + 1 → x.fld m = 0 ∨ Stp.has x.k m = true) := fun m hm => by
                by_cases e : m < j
                · exact M.out m e
                · obtain rfl : m = j := by omega
                  exact .inr hh
              rw [hh] at hv
              clear hh
              go_wp2_with fail
              go_round
              case rel => exact ⟨j + 1, by omega, by go_num, M'⟩
              case measure => simp [intOf]; omega
            · have HH : Hid (Stp.has x.k j = false) := (Bool.not_eq_true _).mp hh
              rw [HH.out] at hv
              clear hh
              go_wp2_with fail
              go_ret
              exact ⟨ret_int (Stp.check_fit HK.out R.out hlt HZ.out HH.out).symm, B2.out⟩
        · obtain rfl : j = 5 := by omega
          have F : Hid x.fit := fun m hm => M.out m hm
          clear M
          have hv : wy.cell? ⟨w3.heap.size, 5, none⟩ = some (.bool (Stp.has x.k 5)) := by rw [cell_of_row _ _ _ _ _ _ V2.out]; exact Stp.hasV_get x.k 5 (by omega)
          obtain ⟨g0, g1, g2, g3, g4, g5, g6⟩ := stp_cell A2.out
          clear g0 g1 g2 g3 g4 g5
          by_cases hh : Stp.has x.k 5 = true
          · have HH := Lib.hid hh
            rw [hh] at hv
            clear hh
            go_wp2_with fail
            go_ret
            exact ⟨ret_int (Stp.check_ok HK.out R.out F.out (fun h => by rw [HH.out] at h; simp at h)).symm, B2.out⟩
          · have HH : Hid (Stp.has x.k 5 = false) := (Bool.not_eq_true _).mp hh
            rw [HH.out] at hv
            clear hh
            by_cases hz : x.n = 0
            · have hz1 : (x.n != 0) = false := by simp [hz]
              have HZ := Lib.hid hz
              clear hz
              go_wp2_with fail
              go_ret
              exact ⟨ret_int (Stp.check_ok HK.out R.out F.out (fun h => h.1 HZ.out)).symm, B2.out⟩
            · have hz1 : (x.n != 0) = true := by simp [hz]
              have HZ := Lib.hid hz
              clear hz
              go_wp2_with fail
              go_ret
              exact ⟨ret_int (Stp.check_n HK.out R.out F.out HZ.out HH.out).symm, B2.out⟩
end Go.Proofs.Ytaefcmmjeloccaa
