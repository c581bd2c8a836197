/- What code.Check comes to. -/
import Derived.Test.YtaefcmmjeloccaaStp1
namespace Go.Proofs.Ytaefcmmjeloccaa
open Go.RowKit

set_option maxHeartbeats 1000000 in
theorem ccheck_any (x : Stp) (w : World) :
    Calls Try.prog 25 #[.agg x.cells] w fun e w' => e = .returned (.int .i64 x.check) ∧ Below w.heap.size w w' := by
  have A0 := Lib.hid (heap_alloc_new w (.cells x.cells 39))
  have B0 := Lib.hid (below_alloc0 w (.cells x.cells 39))
  obtain ⟨g0, g1, g2, g3, g4, g5, g6⟩ := stp_cell A0.out
  by_cases hk1 : x.k < 1
  · go_enter Try.func25, Try.ntmps25
    go_wp2_with fail
    go_ret
    exact ⟨ret_int (Stp.check_kind (.inl hk1)).symm, B0.out⟩
  by_cases hk2 : 17 < x.k
  · go_enter Try.func25, Try.ntmps25
    go_wp2_with fail
    go_ret
    exact ⟨ret_int (Stp.check_kind (.inr hk2)).symm, B0.out⟩
  have hkk : 1 ≤ x.k ∧ x.k ≤ 17 := by omega
  have hk3 : 0 ≤ x.k := by omega
  have hw := Stp.hasW_le x.k.toNat
  have hix := fun wx j hj => small_index x wx j hj
  have HIX := Lib.hid hix
  clear hix
  go_enter Try.func25, Try.ntmps25
  go_wp2_with (first
    | (go_at_call 42; refine (fields_any _ hk3 (by omega) _).mono ?_; rintro e w1 ⟨rfl, rfl⟩)
    | (refine wpList_load_row rfl 39 _ rfl w.heap.size rfl 39 x.cells (0, 0) _ ?_ Try.underlying39 rfl (by kernel_rfl) ?_; exact Hid.out (by assumption))
    | (go_at_call 43; refine (small_any x _).mono ?_; rintro e w2 ⟨rfl, hb2⟩; have A2 := Lib.hid (keep hb2 A0.out); have B2 := Lib.hid (below_next B0.out hb2); clear hb2))
  have N0 : Hid (∀ j, j < 0 → 0 ≤ x.fld j ∧ x.fld j ≤ 255) := fun j hj => absurd hj (by omega)
  clear g0 g1 g2 g3 g4 g5 g6 A0 B0
  go_loopw [21] (fun i wr => ∃ j : Nat, j ≤ 5 ∧ i = .int .i64 j ∧ Hid (∀ m, m < j → 0 ≤ x.fld m ∧ x.fld m ≤ 255) ∧ Hid (wr.heap[w.heap.size]? = some (.cells x.cells 39 (0, 0))) ∧ Hid (Below w.heap.size w wr)) (fun i _ => 5 - (intOf i).toNat)
  case atStart => exact ⟨0, by omega, rfl, N0, A2, B2⟩
  case round =>
    clear N0 A2 B2
    obtain ⟨j, hj, rfl, N, A, B⟩ := hrel
    by_cases hlt : j < 5
    · have hi := fun wx => HIX.out wx j hlt
      by_cases hb : x.fld j < 0 ∨ 255 < x.fld j
      · have HBd := Lib.hid hb
        by_cases h1 : x.fld j < 0
        · clear hb
          go_wp2_with fail
          go_ret
          exact ⟨ret_int (Stp.check_rng hkk hlt HBd.out).symm, B.out⟩
        · have h2 : 255 < x.fld j := by omega
          clear hb
          go_wp2_with fail
          go_ret
          exact ⟨ret_int (Stp.check_rng hkk hlt HBd.out).symm, B.out⟩
      · have h1 : ¬ x.fld j < 0 := by omega
        have h2 : ¬ 255 < x.fld j := by omega
        have N' : Hid (∀ m, m < j + 1 → 0 ≤ x.fld m ∧ x.fld m ≤ 255) := fun m hm => by
          by_cases e : m < j
          · exact N.out m e
          · obtain rfl : m = j := by omega
            omega
        clear hb
        go_wp2_with fail
        go_roundw
        case rel => exact ⟨j + 1, by omega, by go_num, N', A, B⟩
        case measure => simp [intOf]; omega
    · obtain rfl : j = 5 := by omega
      have R : Hid x.rng := fun m hm => N.out m hm
      clear N
      go_wp2_with (first
        | (refine wpList_load_row rfl 39 _ rfl w.heap.size rfl 39 x.cells (0, 0) _ ?_ Try.underlying39 rfl (by kernel_rfl) ?_; exact Hid.out (by assumption))
        | (go_at_call 43; refine (small_any x _).mono ?_; rintro e w3 ⟨rfl, hb2⟩; have A3 := Lib.hid (keep hb2 A.out); have B3 := Lib.hid (below_next B.out hb2); clear hb2))
      have M0 : Hid (∀ j, j < 0 → x.fld j = 0 ∨ Stp.has x.k j = true) := fun j hj => absurd hj (by omega)
      obtain ⟨wo, rfl⟩ : ∃ wo : World, wo = wr := ⟨_, rfl⟩
      go_loopw [33] (fun i wr => ∃ j : Nat, j ≤ 5 ∧ i = .int .i64 j ∧ Hid (∀ m, m < j → x.fld m = 0 ∨ Stp.has x.k m = true) ∧ Hid (wr.heap[w.heap.size]? = some (.cells x.cells 39 (0, 0))) ∧ Hid (Below w.heap.size w wr)) (fun i _ => 5 - (intOf i).toNat)
      case atStart => exact ⟨0, by omega, rfl, M0, A3, B3⟩
      case round =>
        clear M0 A3 B3 A B
        obtain ⟨j, hj, rfl, M, A, B⟩ := hrel
        by_cases hlt : j < 5
        · have hi := fun wx => HIX.out wx j hlt
          have hbit := Stp.hasW_bit x.k.toNat (by omega) (by omega) j (by omega)
          rw [Int.toNat_of_nonneg hk3] at hbit
          by_cases hz : x.fld j = 0
          · have hz1 : (x.fld j != 0) = false := by simp [hz]
            have M' : Hid (∀ m, m < j + 1 → x.fld m = 0 ∨ Stp.has x.k m = true) := fun m hm => by
              by_cases e : m < j
              · exact M.out m e
              · obtain rfl : m = j := by omega
                exact .inl hz
            clear hz hbit
            go_wp2_with fail
            go_roundw
            case rel => exact ⟨j + 1, by omega, by go_num, M', A, B⟩
            case measure => simp [intOf]; omega
          · have hz1 : (x.fld j != 0) = true := by simp [hz]
            have HZ := Lib.hid hz
            clear hz
            by_cases hh : Stp.has x.k j = true
            · have hq : (bits BinOp.and IntKind.i64 (Stp.hasW x.k.toNat / 2 ^ j) 1 == 0) = false := by rw [hbit, hh]; rfl
              have M' : Hid (∀ m, m < j + 1 → x.fld m = 0 ∨ Stp.has x.k m = true) := fun m hm => by
                by_cases e : m < j
                · exact M.out m e
                · obtain rfl : m = j := by omega
                  exact .inr hh
              clear hh hbit
              go_wp2_with fail
              go_roundw
              case rel => exact ⟨j + 1, by omega, by go_num, M', A, B⟩
              case measure => simp [intOf]; omega
            · have hq : (bits BinOp.and IntKind.i64 (Stp.hasW x.k.toNat / 2 ^ j) 1 == 0) = true := by rw [hbit, (Bool.not_eq_true _).mp hh]; rfl
              have HH : Hid (Stp.has x.k j = false) := (Bool.not_eq_true _).mp hh
              clear hh hbit
              go_wp2_with fail
              go_ret
              exact ⟨ret_int (Stp.check_fit hkk R.out hlt HZ.out HH.out).symm, B.out⟩
        · obtain rfl : j = 5 := by omega
          have F : Hid x.fit := fun m hm => M.out m hm
          clear M
          have hbit := Stp.hasW_n x.k.toNat (by omega) (by omega)
          rw [Int.toNat_of_nonneg hk3] at hbit
          obtain ⟨g0, g1, g2, g3, g4, g5, g6⟩ := stp_cell A.out
          by_cases hz : x.n = 0
          · have hz1 : (x.n != 0) = false := by simp [hz]
            have HZ := Lib.hid hz
            clear hz hbit
            go_wp2_with fail
            go_ret
            exact ⟨ret_int (Stp.check_ok hkk R.out F.out (fun h => h.1 HZ.out)).symm, B.out⟩
          · have hz1 : (x.n != 0) = true := by simp [hz]
            have HZ := Lib.hid hz
            clear hz
            by_cases hh : Stp.has x.k 5 = true
            · have hq : (bits BinOp.and IntKind.i64 (Stp.hasW x.k.toNat) 32 == 0) = false := by rw [hbit, hh]; rfl
              have HH := Lib.hid hh
              clear hh hbit
              go_wp2_with fail
              go_ret
              exact ⟨ret_int (Stp.check_ok hkk R.out F.out (fun h => by rw [HH.out] at h; simp at h)).symm, B.out⟩
            · have hh' : Stp.has x.k 5 = false := by simpa using hh
              have hq : (bits BinOp.and IntKind.i64 (Stp.hasW x.k.toNat) 32 == 0) = true := by rw [hbit, hh']; rfl
              have HH := Lib.hid hh'
              clear hh hh' hbit
              go_wp2_with fail
              go_ret
              exact ⟨ret_int (Stp.check_n hkk R.out F.out HZ.out HH.out).symm, B.out⟩
end Go.Proofs.Ytaefcmmjeloccaa
