/- The law's own odd: are twenty octets no config's that may be? -/
import Derived.Test.YtednooklmonblaaLawC
namespace Go.Proofs.Ytednooklmonblaa
open Go.RowKit

set_option maxHeartbeats 1000000 in
theorem odd_any (A : Option Addr) (cap : Nat) (xs : List Int) (w : World) (h : RdB w A 20 xs) :
    Calls Try.prog 21 #[.slice A 20 cap] w fun e w' => e = .returned (.bool ((Cfg.part xs 10).wrong != 0)) ∧ Below w.heap.size w w' := by
  obtain ⟨b, o, rfl, hcell⟩ := h.cell (by omega)
  have HC := Lib.hid hcell
  have HR := Lib.hid h
  clear hcell h
  have H1 : Hid ((w.alloc (.cells (Cfg.part xs 0).cells 69)).heap[w.heap.size]? = some (.cells (Cfg.part xs 0).cells 69 (0, 0))) := heap_alloc_new w _
  have H3 : Hid (Below w.heap.size w (w.alloc (.cells (Cfg.part xs 0).cells 69))) := below_alloc0 w _
  go_enter Try.func21, Try.ntmps21
  go_wp2_with fail
  go_loopw [4] (fun i wr => ∃ k : Nat, k ≤ 10 ∧ i = .int .i64 k ∧ Hid (wr.heap[w.heap.size]? = some (.cells (Cfg.part xs k).cells 69 (0, 0))) ∧ Hid (Below w.heap.size w wr)) (fun i _ => 10 - (intOf i).toNat)
  case atStart => exact ⟨0, by omega, rfl, H1, H3⟩
  case round =>
    clear H1 H3
    obtain ⟨k, hk, rfl, H1, H3⟩ := hrel
    by_cases hlt : k < 10
    · go_wp2_with fail
      have hb := (HR.out.below H3.out)
      obtain ⟨x, hx⟩ : ∃ x, x = xs.getD (2 * k) 0 := ⟨_, rfl⟩
      obtain ⟨y, hy⟩ : ∃ y, y = xs.getD (2 * k + 1) 0 := ⟨_, rfl⟩
      have hxb := getD_byte hb.byte (2 * k)
      have hyb := getD_byte hb.byte (2 * k + 1)
      have hcx : wr.cell? ⟨b, o + 2 * k, none⟩ = some (.int .u8 x) := by rw [hx, H3.out.cell (p := ⟨b, o + 2 * k, none⟩) (World.block_lt_of_cell? w _ (HC.out _ (by omega)))]; exact HC.out _ (by omega)
      have hcy : wr.cell? ⟨b, o + (2 * k + 1), none⟩ = some (.int .u8 y) := by rw [hy, H3.out.cell (p := ⟨b, o + (2 * k + 1), none⟩) (World.block_lt_of_cell? w _ (HC.out _ (by omega)))]; exact HC.out _ (by omega)
      rw [← hx] at hxb
      rw [← hy] at hyb
      have HX := Lib.hid hx
      have HY := Lib.hid hy
      have hct : ∃ v, wr.cell? ⟨w.heap.size, k, none⟩ = some v := by rw [cell_of_row _ _ _ _ _ _ H1.out]; exact ⟨_, Array.getElem?_eq_getElem (show k < 10 from hlt)⟩
      obtain ⟨vt, hct⟩ := hct
      have hcf : wr.frozen? ⟨w.heap.size, k, none⟩ = false := frozen_of_row _ _ _ _ _ H1.out
      clear hb hx hy
      have e1 : IntKind.i64.wrap (2 * (k : Int)) = 2 * (k : Int) := IntWalk.i64_in _ (by omega)
      have e2 : IntKind.i64.wrap (2 * (k : Int) + 1) = 2 * (k : Int) + 1 := IntWalk.i64_in _ (by omega)
      have e3 : (2 * (k : Int)).toNat = 2 * k := by omega
      have e4 : (2 * (k : Int) + 1).toNat = 2 * k + 1 := by omega
      have e10 : IntKind.i64.wrap x = x := IntWalk.i64_in _ (by omega)
      have e11 : IntKind.i64.wrap (256 * x) = 256 * x := IntWalk.i64_in _ (by omega)
      have e12 : IntKind.i64.wrap y = y := IntWalk.i64_in _ (by omega)
      have e13 : IntKind.i64.wrap (256 * x + y) = 256 * x + y := IntWalk.i64_in _ (by omega)
      have e6 : (0 : Int) ≤ 2 * (k : Int) := by omega
      have e7 : 2 * (k : Int) < 20 := by omega
      have e8 : (0 : Int) ≤ 2 * (k : Int) + 1 := by omega
      have e9 : 2 * (k : Int) + 1 < 20 := by omega
      have e14 : (0 : Int) ≤ (k : Int) := by omega
      have e15 : (k : Int) < 10 := by omega
      refine region_tail 17 (by kernel_rfl) (by kernel_rfl) ?_
      simp only [List.take_succ_cons, List.take_zero, List.drop_succ_cons, List.drop_zero]
      repeat still_step
      refine wpStill_nil ?_
      go_wp2_with fail
      go_roundw
      case rel => exact ⟨k + 1, by omega, by go_num, by rw [← Cfg.part_step xs k hlt, ← HX.out, ← HY.out, Int.mul_comm x]; exact heap_setCell_same wr.drew _ k _ _ _ H1.out, H3.out.drew.setCell (by simp) _⟩
      case measure => simp [intOf]; omega
    · obtain rfl : k = 10 := by omega
      have c0 : wr.cell? ⟨w.heap.size, 0, none⟩ = some (.int .i64 (Cfg.num xs 10 0)) := cell_of_row _ _ _ _ _ _ H1.out
      have c1 : wr.cell? ⟨w.heap.size, 1, none⟩ = some (.int .i64 (Cfg.num xs 10 1)) := cell_of_row _ _ _ _ _ _ H1.out
      have c2 : wr.cell? ⟨w.heap.size, 2, none⟩ = some (.int .i64 (Cfg.num xs 10 2)) := cell_of_row _ _ _ _ _ _ H1.out
      have c3 : wr.cell? ⟨w.heap.size, 3, none⟩ = some (.int .i64 (Cfg.num xs 10 3)) := cell_of_row _ _ _ _ _ _ H1.out
      have c4 : wr.cell? ⟨w.heap.size, 4, none⟩ = some (.int .i64 (Cfg.num xs 10 4)) := cell_of_row _ _ _ _ _ _ H1.out
      have c5 : wr.cell? ⟨w.heap.size, 5, none⟩ = some (.int .i64 (Cfg.num xs 10 5)) := cell_of_row _ _ _ _ _ _ H1.out
      have c6 : wr.cell? ⟨w.heap.size, 6, none⟩ = some (.int .i64 (Cfg.num xs 10 6)) := cell_of_row _ _ _ _ _ _ H1.out
      have c7 : wr.cell? ⟨w.heap.size, 7, none⟩ = some (.int .i64 (Cfg.num xs 10 7)) := cell_of_row _ _ _ _ _ _ H1.out
      have c8 : wr.cell? ⟨w.heap.size, 8, none⟩ = some (.int .i64 (Cfg.num xs 10 8)) := cell_of_row _ _ _ _ _ _ H1.out
      have c9 : wr.cell? ⟨w.heap.size, 9, none⟩ = some (.int .i64 (Cfg.num xs 10 9)) := cell_of_row _ _ _ _ _ _ H1.out
      go_wp2_with (go_at_call 13; refine (lwrong_any (Cfg.part xs 10) _).mono ?_; rintro e w4 ⟨rfl, hb4⟩)
      go_ret
      exact ⟨rfl, below_next H3.out hb4⟩
end Go.Proofs.Ytednooklmonblaa
