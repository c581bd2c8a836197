/- What config.Read comes to. -/
import Derived.Test.YtednooklmonblaaCfg4
namespace Go.Proofs.Ytednooklmonblaa
open Go.RowKit

set_option maxHeartbeats 400000 in
theorem read_short (A : Option Addr) (n cap : Nat) (w : World) (h : n ≠ 20) :
    Calls Try.prog 20 #[.slice A n cap] w fun e w' => e = .returned (.tuple #[.agg Cfg.zero.cells, .int .i64 16]) ∧ Below w.heap.size w w' := by
  have h1 : ((n : Int) != 20) = true := by rw [bne_iff_ne]; omega
  clear h
  go_enter Try.func20, Try.ntmps20
  go_wp2_with fail
  exact bodyPost_ret (v := .tuple #[.agg Cfg.zero.cells, .int .i64 16]) (results_row_tmp (p := 2) (u := 3) rfl _ _ w.heap.size 23 Cfg.zero.cells _ _ rfl (heap_alloc_new w _) Try.underlying23 rfl (by kernel_rfl)) rfl
    ⟨rfl, below_alloc0 w _⟩

theorem heap_below {B : Nat} {w w1 : World} (h : Below B w w1) {k : Nat} (hk : k < B) {o : Obj} (ho : w.heap[k]? = some o) : w1.heap[k]? = some o := (h.block k hk).trans ho

theorem or256 (x y : Int) (h0 : 0 ≤ x) (h1 : x ≤ 255) (h2 : 0 ≤ y) (h3 : y ≤ 255) : bits .or .i64 (x * 256) y = x * 256 + y := by
  refine bits_join .i64 63 (by decide) (fun n h0 h1 => ?_) 8 _ _ (by omega) (by omega) (by omega) h2 (by omega) (by omega)
  rw [IntKind.wrap_i64]; omega

set_option maxHeartbeats 1000000 in
theorem read_full (A : Option Addr) (cap : Nat) (xs : List Int) (w : World) (h : RdB w A 20 xs) :
    Calls Try.prog 20 #[.slice A 20 cap] w fun e w' => e = .returned (.tuple (if (Cfg.part xs 10).wrong = 0 then #[.agg (Cfg.part xs 10).cells, .int .i64 0] else #[.agg Cfg.zero.cells, .int .i64 16])) ∧ Below w.heap.size w w' := by
  obtain ⟨b, o, rfl, hcell⟩ := h.cell (by omega)
  have HC := Lib.hid hcell
  have HR := Lib.hid h
  clear hcell h
  go_enter Try.func20, Try.ntmps20
  go_wp2_with (first | (go_at_call 39; refine (spans_any _ _).mono ?_; rintro e w2 ⟨rfl, hb2⟩))
  have H1 : Hid (w2.heap[w.heap.size + 1]? = some (.cells (Cfg.part xs 0).cells 23 (0, 0))) := heap_below hb2 (by simp) (heap_alloc2_new w _ _)
  have H2 : Hid (w2.heap[w.heap.size]? = some (.cells Cfg.zero.cells 23 (0, 0))) := heap_below hb2 (by simp; omega) (heap_alloc2_old w _ _)
  have H3 : Hid (Below w.heap.size w w2) := ((below_alloc0 w _).alloc (by simp) _).trans (hb2.mono (by simp; omega))
  have H4 : w.heap.size + 2 ≤ w2.heap.size := by have := hb2.size; simp at this; omega
  clear hb2
  go_loopw [12] (fun i wr => ∃ k : Nat, k ≤ 10 ∧ i = .int .i64 k ∧ Hid (wr.heap[w.heap.size + 1]? = some (.cells (Cfg.part xs k).cells 23 (0, 0))) ∧ Hid (wr.heap[w.heap.size]? = some (.cells Cfg.zero.cells 23 (0, 0))) ∧ Hid (Below w.heap.size w wr) ∧ w.heap.size + 2 ≤ wr.heap.size) (fun i _ => 10 - (intOf i).toNat)
  case atStart => exact ⟨0, by omega, rfl, H1, H2, H3, H4⟩
  case round =>
    clear H1 H2 H3 H4
    obtain ⟨k, hk, rfl, H1, H2, H3, H4⟩ := hrel
    by_cases hlt : k < 10
    · have hix := fun wx => spans_index (w.heap.size + 1) wx k hlt
      go_wp2_with fail
      obtain ⟨wx, hwx⟩ : ∃ wx, wx = wr.alloc (.cells #[.pointer (some ⟨w.heap.size + 1, k, none⟩), .int .i64 (Cfg.lo k), .int .i64 (Cfg.hi k)] 62) := ⟨_, rfl⟩
      have hx0 : wx.cell? ⟨wr.heap.size, 0, none⟩ = some (.pointer (some ⟨w.heap.size + 1, k, none⟩)) := by rw [hwx, cell_of_row _ _ _ _ _ _ (heap_alloc_new wr _)]; rfl
      have H1' : Hid (wx.heap[w.heap.size + 1]? = some (.cells (Cfg.part xs k).cells 23 (0, 0))) := by rw [hwx]; exact heap_below (below_alloc0 wr _) (by omega) H1.out
      have H2' : Hid (wx.heap[w.heap.size]? = some (.cells Cfg.zero.cells 23 (0, 0))) := by rw [hwx]; exact heap_below (below_alloc0 wr _) (by omega) H2.out
      have H3' : Hid (Below w.heap.size w wx) := by rw [hwx]; exact H3.out.alloc (by omega) _
      have H4' : w.heap.size + 2 ≤ wx.heap.size := by rw [hwx]; simp; omega
      rw [← hwx]
      have hb := (HR.out.below H3'.out)
      obtain ⟨x, hx⟩ : ∃ x, x = xs.getD (2 * k) 0 := ⟨_, rfl⟩
      obtain ⟨y, hy⟩ : ∃ y, y = xs.getD (2 * k + 1) 0 := ⟨_, rfl⟩
      have hxb := getD_byte hb.byte (2 * k)
      have hyb := getD_byte hb.byte (2 * k + 1)
      have hcx : wx.cell? ⟨b, o + 2 * k, none⟩ = some (.int .u8 x) := by rw [hx, H3'.out.cell (p := ⟨b, o + 2 * k, none⟩) (World.block_lt_of_cell? w _ (HC.out _ (by omega)))]; exact HC.out _ (by omega)
      have hcy : wx.cell? ⟨b, o + (2 * k + 1), none⟩ = some (.int .u8 y) := by rw [hy, H3'.out.cell (p := ⟨b, o + (2 * k + 1), none⟩) (World.block_lt_of_cell? w _ (HC.out _ (by omega)))]; exact HC.out _ (by omega)
      rw [← hx] at hxb
      rw [← hy] at hyb
      have HX := Lib.hid hx
      have HY := Lib.hid hy
      have hct : ∃ v, wx.cell? ⟨w.heap.size + 1, k, none⟩ = some v := by rw [cell_of_row _ _ _ _ _ _ H1'.out]; exact ⟨_, Array.getElem?_eq_getElem (show k < 10 from hlt)⟩
      obtain ⟨vt, hct⟩ := hct
      have hcf : wx.frozen? ⟨w.heap.size + 1, k, none⟩ = false := frozen_of_row _ _ _ _ _ H1'.out
      clear hwx hix hb hx hy H1 H2 H3 H4
      have e1 : IntKind.i64.wrap (2 * (k : Int)) = 2 * (k : Int) := IntWalk.i64_in _ (by omega)
      have e2 : IntKind.i64.wrap (2 * (k : Int) + 1) = 2 * (k : Int) + 1 := IntWalk.i64_in _ (by omega)
      have e3 : (2 * (k : Int)).toNat = 2 * k := by omega
      have e4 : (2 * (k : Int) + 1).toNat = 2 * k + 1 := by omega
      have e5 : bits .or .i64 (x * 256) y = x * 256 + y := or256 x y hxb.1 hxb.2 hyb.1 hyb.2
      have e10 : IntKind.i64.wrap x = x := IntWalk.i64_in _ (by omega)
      have e11 : IntKind.i64.wrap (x * 256) = x * 256 := IntWalk.i64_in _ (by omega)
      have e12 : IntKind.i64.wrap y = y := IntWalk.i64_in _ (by omega)
      have e6 : (0 : Int) ≤ 2 * (k : Int) := by omega
      have e7 : 2 * (k : Int) < 20 := by omega
      have e8 : (0 : Int) ≤ 2 * (k : Int) + 1 := by omega
      have e9 : 2 * (k : Int) + 1 < 20 := by omega
      refine region_tail 18 (by kernel_rfl) (by kernel_rfl) ?_
      simp only [List.take_succ_cons, List.take_zero, List.drop_succ_cons, List.drop_zero]
      repeat still_step
      refine wpStill_nil ?_
      go_wp2_with fail
      go_roundw
      case rel => exact ⟨k + 1, by omega, by go_num, by rw [← Cfg.part_step xs k hlt, ← HX.out, ← HY.out]; exact heap_setCell_same wx.drew _ k _ _ _ H1'.out, (heap_setCell_other wx.drew _ _ _ (by simp)).trans H2'.out, H3'.out.drew.setCell (by simp) _, by simpa using H4'⟩
      case measure => simp [intOf]; omega
    · obtain rfl : k = 10 := by omega
      by_cases hw : (Cfg.part xs 10).wrong = 0
      · have h1 : ((Cfg.part xs 10).wrong != 0) = false := by simp [hw]
        have HW := Lib.hid hw
        clear hw
        go_wp2_with (first | (go_at_call 14; refine (wrong_any _ _).mono ?_; rintro e w3 ⟨rfl, hb3⟩; have G1 := Lib.hid (heap_below hb3 (by omega) H1.out); have G2 := Lib.hid (heap_below hb3 (by omega) H2.out)) | (refine wpList_load_row rfl 23 _ rfl (w.heap.size + 1) rfl 23 (Cfg.part xs 10).cells (0, 0) _ H1.out Try.underlying23 rfl (by kernel_rfl) ?_) | (refine wpList_load_row rfl 23 _ rfl (w.heap.size + 1) rfl 23 (Cfg.part xs 10).cells (0, 0) _ G1.out Try.underlying23 rfl (by kernel_rfl) ?_) | (refine wpList_store_row rfl 23 _ _ rfl w.heap.size (Cfg.part xs 10).cells rfl rfl 23 _ G2.out (by kernel_rfl) rfl (by kernel_rfl) ?_))
        exact bodyPost_ret (v := .tuple #[.agg (Cfg.part xs 10).cells, .int .i64 0]) (results_row_tmp (p := 2) (u := 3) rfl _ _ w.heap.size 23 (Cfg.part xs 10).cells _ _ rfl (heap_setRow_same _ G2.out) Try.underlying23 rfl (by kernel_rfl)) rfl
          ⟨rfl, below_setRow (below_up H3.out (by omega) hb3) (Nat.le_refl _) _⟩
      · have h1 : ((Cfg.part xs 10).wrong != 0) = true := by simp [hw]
        have HW := Lib.hid hw
        clear hw
        go_wp2_with (first | (go_at_call 14; refine (wrong_any _ _).mono ?_; rintro e w3 ⟨rfl, hb3⟩; have G1 := Lib.hid (heap_below hb3 (by omega) H1.out); have G2 := Lib.hid (heap_below hb3 (by omega) H2.out)) | (refine wpList_load_row rfl 23 _ rfl (w.heap.size + 1) rfl 23 (Cfg.part xs 10).cells (0, 0) _ H1.out Try.underlying23 rfl (by kernel_rfl) ?_) | (refine wpList_load_row rfl 23 _ rfl (w.heap.size + 1) rfl 23 (Cfg.part xs 10).cells (0, 0) _ G1.out Try.underlying23 rfl (by kernel_rfl) ?_) | (refine wpList_store_row rfl 23 _ _ rfl w.heap.size Cfg.zero.cells rfl rfl 23 _ G2.out (by kernel_rfl) rfl (by kernel_rfl) ?_))
        exact bodyPost_ret (v := .tuple #[.agg Cfg.zero.cells, .int .i64 16]) (results_row_tmp (p := 2) (u := 3) rfl _ _ w.heap.size 23 Cfg.zero.cells _ _ rfl (heap_setRow_same _ G2.out) Try.underlying23 rfl (by kernel_rfl)) rfl
          ⟨rfl, below_setRow (below_up H3.out (by omega) hb3) (Nat.le_refl _) _⟩
end Go.Proofs.Ytednooklmonblaa
