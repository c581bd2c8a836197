/- What the law's own reckoning of pages comes to. -/
import Derived.Test.YtbbdjfbhidpeiaaBnd3
import Derived.Test.YtbbdjfbhidpeiaaCls2
namespace Go.Proofs.Ytbbdjfbhidpeiaa
open Go.RowKit

set_option maxHeartbeats 4000000 in
set_option maxRecDepth 100000 in
theorem lneed_ok (c : Cfg) (hw : c.wrong = 0) (A : Option Addr) (n cap : Nat) (xs : List Int) (w : World) (h : RdI w A n xs) :
    Calls Try.prog 14 #[.agg c.cells, .slice A n cap] w fun e w' => e = .returned (.int .i64 (needI xs c.t n)) ∧ Below w.heap.size w w' := by
  have hf := (Cfg.wrong_zero hw).1
  have ht := hf.t
  have hmax := h.max
  have A0 := Lib.hid (heap_alloc_new w (.cells c.cells 23))
  have B0 := Lib.hid (below_alloc0 w (.cells c.cells 23))
  have R0 := Lib.hid (h.alloc (.cells c.cells 23))
  clear h hf hw
  have hmm : Try.prog.follows .mixedOrders = true := by kernel_rfl
  go_enter Try.func14, Try.ntmps14
  go_wp2_with fail
  go_loopw [5, 6] (fun v i wr => ∃ (j : Nat), j ≤ 4 ∧ i = .int .i64 ((j : Int) + 1) ∧ v = .int .i64 (1 + sumI xs c.t n j) ∧ Hid (wr.heap[w.heap.size]? = some (.cells c.cells 23 (0, 0))) ∧ Hid (RdI wr A n xs) ∧ Hid (Below w.heap.size w wr)) (fun _ i _ => 5 - (intOf i).toNat)
  case atStart => exact ⟨0, by omega, rfl, by simp [sumI], A0, R0, B0⟩
  case round =>
    clear A0 R0 B0
    obtain ⟨j, hj, rfl, rfl, A0, R0, B0⟩ := hrel
    have hsm := sumI_bd xs (t := c.t) n (by omega) j hj
    have hjm : (j : Int) * (n + c.t) ≤ 4 * (n + c.t) := Int.mul_le_mul_of_nonneg_right (by omega) (by omega)
    by_cases hlt : j < 4
    · have hd4 : decide ((j : Int) + 1 ≤ 4) = true := by simp; omega
      go_wp2_with fail
      go_loopw [7, 8] (fun v i wq => ∃ (k : Nat), k ≤ n ∧ i = .int .i64 k ∧ v = .int .i64 (cntI xs ((j : Int) + 1) k) ∧ Hid (wq.heap[w.heap.size]? = some (.cells c.cells 23 (0, 0))) ∧ Hid (RdI wq A n xs) ∧ Hid (Below w.heap.size w wq)) (fun _ i _ => n - (intOf i).toNat)
      case atStart => exact ⟨0, by omega, rfl, rfl, A0, R0, B0⟩
      case round =>
        clear A0 R0 B0
        obtain ⟨k, hk, rfl, rfl, A0, R0, B0⟩ := hrel
        have hcn := cntI_bd xs ((j : Int) + 1) k
        by_cases hkn : k < n
        · obtain ⟨b, o, rfl, _, hcell⟩ := R0.out.cell (by omega)
          have hcx := hcell k hkn
          obtain ⟨x, hx⟩ : ∃ x, x = xs.getD k 0 := ⟨_, rfl⟩
          rw [← hx] at hcx
          replace hx := Lib.hid hx
          clear hcell
          have hof := ofI_bd x
          by_cases he : ofI x = (j : Int) + 1
          · have hd : (ofI x == (j : Int) + 1) = true := by simpa using he
            have hst : cntI xs ((j : Int) + 1) (k + 1) = cntI xs ((j : Int) + 1) k + 1 := by simp only [cntI]; rw [← hx.out, if_pos he]
            clear he
            go_wp2_with (first
              | (go_at_call 36; refine (rof_any x _).mono ?_; rintro e w2 ⟨rfl, hb2⟩))
            go_roundw
            case rel => exact ⟨k + 1, by omega, by go_num, by rw [hst], Lib.hid (keep hb2 A0.out), Lib.hid (R0.out.below hb2), Lib.hid (below_next B0.out hb2)⟩
            case measure => simp [intOf]; omega
          · have hd : (ofI x == (j : Int) + 1) = false := by simpa using he
            have hst : cntI xs ((j : Int) + 1) (k + 1) = cntI xs ((j : Int) + 1) k := by simp only [cntI]; rw [← hx.out, if_neg he, Int.add_zero]
            clear he
            go_wp2_with (first
              | (go_at_call 36; refine (rof_any x _).mono ?_; rintro e w2 ⟨rfl, hb2⟩))
            go_roundw
            case rel => exact ⟨k + 1, by omega, by go_num, by rw [hst], Lib.hid (keep hb2 A0.out), Lib.hid (R0.out.below hb2), Lib.hid (below_next B0.out hb2)⟩
            case measure => simp [intOf]; omega
        · obtain rfl : k = n := by omega
          clear hk hkn
          by_cases hc0 : 0 < cntI xs ((j : Int) + 1) k
          · have hd0 : decide (0 < cntI xs ((j : Int) + 1) k) = true := by simpa using hc0
            go_wp2_with fail
            have hcell := cell_of_row _ _ 1 _ _ _ A0.out
            have hct : wr.drew.cell? ⟨w.heap.size, 1, none⟩ = some (.int .i64 c.t) := hcell
            clear hcell
            have hcp := cellsI_pos (k := (j : Int) + 1) (by omega)
            have hq0 : cellsI ((j : Int) + 1) ≠ 0 := by omega
            have hq1 : 0 ≤ cntI xs ((j : Int) + 1) k / cellsI ((j : Int) + 1) := Int.ediv_nonneg hcn.1 (by omega)
            have hq2 : cntI xs ((j : Int) + 1) k / cellsI ((j : Int) + 1) ≤ k := Int.le_trans (Int.ediv_le_self _ hcn.1) hcn.2
            have hst : sumI xs c.t k (j + 1) = sumI xs c.t k j + (cntI xs ((j : Int) + 1) k / cellsI ((j : Int) + 1) + c.t) := by simp only [sumI, termI]; rw [if_pos hc0]
            go_region_held3 (fun w' => w'.cell? ⟨w.heap.size, 1, none⟩ = some (.int .i64 c.t) ∧ Below wr.heap.size wr w')
              (first
                | exact ⟨hct, (Below.refl _ _).drew⟩
                | (go_split_ands; exact ⟨cell_keep hb5 (by assumption), below_next (by assumption) hb5⟩))
              (first
                | (go_at_call 37; refine (rcells_any _ _).mono ?_; rintro e w5 ⟨rfl, hb5⟩))
            go_wp2_with fail
            go_split_ands
            have hb6 : Below wr.heap.size wr w5 := by assumption
            rw [IntWalk.i64_quo _ _ (by omega), IntWalk.i64_in (1 + sumI xs c.t k j + cntI xs ((j : Int) + 1) k / cellsI ((j : Int) + 1)) (by omega), IntWalk.i64_in _ (by omega)]
            refine ⟨⟨j + 1, by omega, by go_num, by rw [hst, Int.add_assoc, Int.add_assoc], Lib.hid (keep hb6 A0.out), Lib.hid (R0.out.below hb6), Lib.hid (below_next B0.out hb6)⟩, ?_⟩
            simp [intOf]; omega
          · have hd0 : decide (0 < cntI xs ((j : Int) + 1) k) = false := by simpa using hc0
            have hst : sumI xs c.t k (j + 1) = sumI xs c.t k j := by simp only [sumI, termI]; rw [if_neg hc0, Int.add_zero]
            go_wp2_with fail
            go_roundw
            case rel => exact ⟨j + 1, by omega, by go_num, by rw [hst], A0, R0, B0⟩
            case measure => simp [intOf]; omega
    · have hd4 : decide ((j : Int) + 1 ≤ 4) = false := by simp; omega
      have h4 : Hid (j = 4) := Lib.hid (by omega)
      clear hlt hj
      go_wp2_with fail
      go_loopw [5, 9] (fun v i wq => ∃ (k : Nat), k ≤ n ∧ i = .int .i64 k ∧ v = .int .i64 (1 + sumI xs c.t n j + pgI xs k) ∧ Hid (wq.heap[w.heap.size]? = some (.cells c.cells 23 (0, 0))) ∧ Hid (RdI wq A n xs) ∧ Hid (Below w.heap.size w wq)) (fun _ i _ => n - (intOf i).toNat)
      case atStart => exact ⟨0, by omega, rfl, by simp [pgI], A0, R0, B0⟩
      case round =>
        clear A0 R0 B0
        obtain ⟨k, hk, rfl, rfl, A0, R0, B0⟩ := hrel
        have hpg := pgI_bd xs k
        by_cases hkn : k < n
        · obtain ⟨b, o, rfl, _, hcell⟩ := R0.out.cell (by omega)
          have hcx := hcell k hkn
          obtain ⟨x, hx⟩ : ∃ x, x = xs.getD k 0 := ⟨_, rfl⟩
          rw [← hx] at hcx
          replace hx := Lib.hid hx
          clear hcell
          have hpx := pagesI_bd x
          go_wp2_with (first
            | (go_at_call 15; refine (rpages_any x _).mono ?_; rintro e w2 ⟨rfl, hb2⟩))
          go_roundw
          case rel => exact ⟨k + 1, by omega, by go_num, by simp only [pgI, ← hx.out]; go_num, Lib.hid (keep hb2 A0.out), Lib.hid (R0.out.below hb2), Lib.hid (below_next B0.out hb2)⟩
          case measure => simp [intOf]; omega
        · obtain rfl : k = n := by omega
          clear hk hkn
          go_wp2_with fail
          go_ret
          exact ⟨ret_int (by have := h4.out; subst this; unfold needI; omega), B0.out⟩
end Go.Proofs.Ytbbdjfbhidpeiaa
